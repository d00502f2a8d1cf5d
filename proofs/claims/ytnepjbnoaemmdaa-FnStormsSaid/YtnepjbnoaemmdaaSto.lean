/- What each function of this seat does (Sto). Printed from templates of this seat's own. -/
import Derived.Test.YtnepjbnoaemmdaaRls
namespace Go.Proofs.Ytnepjbnoaemmdaa
open Go.Ax Go.Bx
set_option maxRecDepth 8000
set_option linter.unusedSimpArgs false
set_option linter.unusedVariables false
def nx (s : Int) : Int := (1103515245 * s + 12345) % 2147483648
noncomputable def dv (s : Int) : Nat := fop .quo .f32 (foi .f32 (s / 65536 + 1)) (canon .f32 1191182336)
theorem nx_range (s : Int) : 0 ≤ nx s ∧ nx s ≤ 2147483647 := by unfold nx; omega
section
variable (lo si : Nat)
noncomputable def soStart (st : Nat) (s : Int) : Nat := fop .add .f32 st (fop .mul .f32 lo (dv (nx s)))
noncomputable def soStorm (st : Nat) (s : Int) : S4 := (soStart lo st s, fop .mul .f32 lo (dv (nx (nx s))), fop .mul .f32 si (dv (nx (nx (nx s)))), fop .add .f32 (fop .mul .f32 (dv (nx (nx (nx (nx s))))) (canon .f32 1056964608)) (canon .f32 1048576000))
noncomputable def soSt (s0 : Int) : Nat → Nat × Int
  | 0 => (canon .f32 0, s0)
  | j + 1 => (fop .add .f32 (soStart lo (soSt s0 j).1 (soSt s0 j).2) (fop .mul .f32 lo (dv (nx (nx (soSt s0 j).2)))), nx (nx (nx (nx (soSt s0 j).2))))
noncomputable def soL (s0 : Int) (j : Nat) : S4 := soStorm lo si (soSt lo s0 j).1 (soSt lo s0 j).2
noncomputable def soC (n s0 : Int) : Bool := inR n 0 24 && above lo && above si && inR s0 0 2147483647 && allN (fun j => stV (soL lo si s0 j)) n.toNat
noncomputable def soO (n s0 : Int) : List S4 := bif soC lo si n s0 then tabN (soL lo si s0) n.toNat else []
noncomputable def soS (n s0 : Int) : Int := bif soC lo si n s0 then (soSt lo s0 n.toNat).2 else 0
end
theorem soO_len (lo si : Nat) (n s0 : Int) : (soO lo si n s0).length ≤ 24 := by
  unfold soO
  cases h : soC lo si n s0
  · exact Nat.zero_le _
  · rw [cond_true, tabN_len]
    simp [soC, inR] at h
    omega
theorem soSt_range (lo : Nat) (s0 : Int) (h : 0 ≤ s0 ∧ s0 ≤ 2147483647) : ∀ j, 0 ≤ (soSt lo s0 j).2 ∧ (soSt lo s0 j).2 ≤ 2147483647
  | 0 => h
  | j + 1 => nx_range _

theorem sDraw {s : Int} (h : 0 ≤ s ∧ s ≤ 2147483647) : Does Try.prog 44 [.int .i64 s] (.tup [.flt .f32 (dv (nx s)), .int .i64 (nx s)]) := by
  refine Does.of_awp (X := cx 15) Try.func44 rfl (by kernel_rfl) rfl (by simp [cx]) [] rfl ?_
  conv => whnf
  repeat (first
    | (refine ⟨⟨by kernel_rfl, by kernel_rfl⟩, ?_⟩; conv => whnf)
    | (refine And.intro (by first | omega | (simp; done) | (simp; omega)) ?_; conv => whnf)
    | (refine Or.inl (And.intro (by omega) ?_); conv => whnf))
  all_goals (try (conv => whnf))
  all_goals (repeat' (first | exact True.intro | (refine And.intro ?_ ?_ <;> (conv => whnf))))
  all_goals (first | rfl | (simp_all []; done) | (simp only [cond_true, cond_false, Bool.and_true, Bool.true_and, Bool.and_false, Bool.false_and]; rfl) | (simp_all []; omega))

theorem iSeed {s : Int} : Does Try.prog 40 [.int .i64 s] (.bool (inR s 0 2147483647)) := by
  refine Does.of_awp (X := cx 5) Try.func40 rfl (by kernel_rfl) rfl (by simp [cx]) [] rfl ?_
  conv => whnf
  repeat (first
    | (refine ⟨⟨by kernel_rfl, by kernel_rfl⟩, ?_⟩; conv => whnf)
    | (refine And.intro (by first | omega | (simp; done) | (simp; omega)) ?_; conv => whnf)
    | (refine Or.inl (And.intro (by omega) ?_); conv => whnf)
    | (refine Exists.intro _ (And.intro (iWithin) ?_); conv => whnf))
  all_goals (try (conv => whnf))
  all_goals (repeat' (first | exact True.intro | (refine And.intro ?_ ?_ <;> (conv => whnf))))
  all_goals (first | rfl | (simp_all []; done) | (simp only [cond_true, cond_false, Bool.and_true, Bool.true_and, Bool.and_false, Bool.false_and]; rfl) | (simp_all []; omega))

theorem iDraw {s : Int} (h : 0 ≤ s ∧ s ≤ 2147483647) : Does Try.prog 41 [.int .i64 s] (.tup [.int .i64 (nx s), .int .i64 (nx s / 65536)]) := by
  refine Does.of_awp (X := cx 11) Try.func41 rfl (by kernel_rfl) rfl (by simp [cx]) [] rfl ?_
  conv => whnf
  repeat (first
    | (refine ⟨⟨by kernel_rfl, by kernel_rfl⟩, ?_⟩; conv => whnf)
    | (refine And.intro (by first | omega | (simp; done) | (simp; omega)) ?_; conv => whnf)
    | (refine Or.inl (And.intro (by omega) ?_); conv => whnf))
  all_goals (try (conv => whnf))
  all_goals (repeat' (first | exact True.intro | (refine And.intro ?_ ?_ <;> (conv => whnf))))
  all_goals (first | rfl | (simp_all []; done) | (simp only [cond_true, cond_false, Bool.and_true, Bool.true_and, Bool.and_false, Bool.false_and]; rfl) | (simp_all []; omega))

theorem sStormsOf {n s0 : Int} {lo si : Nat} : Does Try.prog 22 [.int .i64 n, .flt .f32 lo, .flt .f32 si, .int .i64 s0] (.tup [.own 0 .f4 (soO lo si n s0), .int .i64 (soS lo si n s0), .bool (soC lo si n s0)]) := by
  refine Does.of_awp (X := cx 94) Try.func22 rfl (by kernel_rfl) rfl (by simp [cx]) [160] rfl ?_
  conv => whnf
  repeat (first
    | (refine ⟨⟨by kernel_rfl, by kernel_rfl⟩, ?_⟩; conv => whnf)
    | (refine And.intro (by first | omega | (simp; done) | (simp; omega)) ?_; conv => whnf)
    | (refine Or.inl (And.intro (by omega) ?_); conv => whnf)
    | (refine Exists.intro _ (And.intro (sIn) ?_); conv => whnf))
  (refine br_intro (fun g1 => ?_) (fun g1 => ?_) <;> (conv => whnf))
  · have g1 : inR n 0 24 = false := by simpa using g1
    all_goals (try (conv => whnf))
    all_goals (repeat' (first | exact True.intro | (refine And.intro ?_ ?_ <;> (conv => whnf))))
    all_goals (first | rfl | (simp_all [soO, soS, soC]; done) | (simp only [soO, soS, soC, cond_true, cond_false, Bool.and_true, Bool.true_and, Bool.and_false, Bool.false_and]; rfl) | (simp_all [soO, soS, soC]; omega))
  have g1 : inR n 0 24 = true := by simpa using g1
  repeat (first
    | (refine ⟨⟨by kernel_rfl, by kernel_rfl⟩, ?_⟩; conv => whnf)
    | (refine And.intro (by first | omega | (simp; done) | (simp; omega)) ?_; conv => whnf)
    | (refine Or.inl (And.intro (by omega) ?_); conv => whnf)
    | (refine Exists.intro _ (And.intro (sAbove) ?_); conv => whnf))
  (refine br_intro (fun g2 => ?_) (fun g2 => ?_) <;> (conv => whnf))
  · have g2 : above lo = false := by simpa using g2
    all_goals (try (conv => whnf))
    all_goals (repeat' (first | exact True.intro | (refine And.intro ?_ ?_ <;> (conv => whnf))))
    all_goals (first | rfl | (simp_all [soO, soS, soC]; done) | (simp only [soO, soS, soC, cond_true, cond_false, Bool.and_true, Bool.true_and, Bool.and_false, Bool.false_and]; rfl) | (simp_all [soO, soS, soC]; omega))
  have g2 : above lo = true := by simpa using g2
  repeat (first
    | (refine ⟨⟨by kernel_rfl, by kernel_rfl⟩, ?_⟩; conv => whnf)
    | (refine And.intro (by first | omega | (simp; done) | (simp; omega)) ?_; conv => whnf)
    | (refine Or.inl (And.intro (by omega) ?_); conv => whnf)
    | (refine Exists.intro _ (And.intro (sAbove) ?_); conv => whnf))
  (refine br_intro (fun g3 => ?_) (fun g3 => ?_) <;> (conv => whnf))
  · have g3 : above si = false := by simpa using g3
    all_goals (try (conv => whnf))
    all_goals (repeat' (first | exact True.intro | (refine And.intro ?_ ?_ <;> (conv => whnf))))
    all_goals (first | rfl | (simp_all [soO, soS, soC]; done) | (simp only [soO, soS, soC, cond_true, cond_false, Bool.and_true, Bool.true_and, Bool.and_false, Bool.false_and]; rfl) | (simp_all [soO, soS, soC]; omega))
  have g3 : above si = true := by simpa using g3
  repeat (first
    | (refine ⟨⟨by kernel_rfl, by kernel_rfl⟩, ?_⟩; conv => whnf)
    | (refine And.intro (by first | omega | (simp; done) | (simp; omega)) ?_; conv => whnf)
    | (refine Or.inl (And.intro (by omega) ?_); conv => whnf)
    | (refine Exists.intro _ (And.intro (sIn) ?_); conv => whnf))
  (refine br_intro (fun g4 => ?_) (fun g4 => ?_) <;> (conv => whnf))
  · have g4 : inR s0 0 2147483647 = false := by simpa using g4
    all_goals (try (conv => whnf))
    all_goals (repeat' (first | exact True.intro | (refine And.intro ?_ ?_ <;> (conv => whnf))))
    all_goals (first | rfl | (simp_all [soO, soS, soC]; done) | (simp only [soO, soS, soC, cond_true, cond_false, Bool.and_true, Bool.true_and, Bool.and_false, Bool.false_and]; rfl) | (simp_all [soO, soS, soC]; omega))
  have g4 : inR s0 0 2147483647 = true := by simpa using g4
  have hr : 0 ≤ s0 ∧ s0 ≤ 2147483647 := by simpa [inR] using g4
  have hn : 0 ≤ n ∧ n ≤ 24 := by simpa [inR] using g1
  have eC : soC lo si n s0 = allN (fun j => stV (soL lo si s0 j)) n.toNat := by simp [soC, g1, g2, g3, g4]
  clear g1 g2 g3 g4
  repeat (first
    | (refine ⟨⟨by kernel_rfl, by kernel_rfl⟩, ?_⟩; conv => whnf)
    | (refine And.intro (by first | omega | (simp; done) | (simp; omega)) ?_; conv => whnf)
    | (refine Or.inl (And.intro (by omega) ?_); conv => whnf))
  refine ⟨Nat × Int, fun p => p.1 ≤ n.toNat ∧ p.2 = n - p.1 ∧ allN (fun j => stV (soL lo si s0 j)) p.1 = true, fun p => [(0, .int .i64 p.2), (1, .flt .f32 lo), (2, .flt .f32 si), (3, .int .i64 (soSt lo s0 p.1).2), (11, .osl 160), (12, .flt .f32 (soSt lo s0 p.1).1)], fun p => [(160, .tab .f4 (tabN (soL lo si s0) p.1))], fun p => n.toNat - p.1, ⟨(0, n), id, ⟨Nat.zero_le _, by simp, rfl⟩, rfl, ⟨rfl, rfl, rfl, rfl, rfl, rfl, trivial⟩, ⟨rfl, trivial⟩⟩, fun p hi => ?_⟩
  obtain ⟨i, j⟩ := p
  obtain ⟨hi, hj, hA⟩ := hi
  dsimp only at hi hj hA
  subst hj
  conv => whnf
  (refine br_intro (fun h => ?_) (fun h => ?_) <;> (conv => whnf))
  · have h : i < n.toNat := by simp at h; omega
    have r0 := soSt_range lo s0 hr i
    have r1 := nx_range (soSt lo s0 i).2
    have r2 := nx_range (nx (soSt lo s0 i).2)
    have r3 := nx_range (nx (nx (soSt lo s0 i).2))
    repeat (first
      | (refine ⟨⟨by kernel_rfl, by kernel_rfl⟩, ?_⟩; conv => whnf)
      | (refine And.intro (by first | omega | (simp; done) | (simp; omega)) ?_; conv => whnf)
      | (refine Or.inl (And.intro (by omega) ?_); conv => whnf)
      | (refine Exists.intro _ (And.intro (sDraw r0) ?_); conv => whnf)
      | (refine Exists.intro _ (And.intro (sDraw r1) ?_); conv => whnf)
      | (refine Exists.intro _ (And.intro (sDraw r2) ?_); conv => whnf)
      | (refine Exists.intro _ (And.intro (sDraw r3) ?_); conv => whnf)
      | (refine Exists.intro _ (And.intro (sStormE (s := soL lo si s0 i)) ?_); conv => whnf))
    (refine br_intro (fun h2 => ?_) (fun h2 => ?_) <;> (conv => whnf))
    · have h2 : (!stV (soL lo si s0 i)) = true := h2
      have := allN_false (p := fun j => stV (soL lo si s0 j)) h (by simpa using h2)
      have eC : soC lo si n s0 = false := by rw [eC, this]
      clear this hA
      all_goals (try (conv => whnf))
      all_goals (repeat' (first | exact True.intro | (refine And.intro ?_ ?_ <;> (conv => whnf))))
      all_goals (first | rfl | (simp_all [soO, soS, eC]; done) | (simp only [soO, soS, eC, cond_true, cond_false, Bool.and_true, Bool.true_and, Bool.and_false, Bool.false_and]; rfl) | (simp_all [soO, soS, eC]; omega))
    · have h2 : (!stV (soL lo si s0 i)) = false := h2
      have h2 : stV (soL lo si s0 i) = true := by simpa using h2
      repeat (first
        | (refine ⟨⟨by kernel_rfl, by kernel_rfl⟩, ?_⟩; conv => whnf)
        | (refine And.intro (by first | omega | (simp; done) | (simp; omega)) ?_; conv => whnf)
        | (refine Or.inl (And.intro (by omega) ?_); conv => whnf))
      refine ⟨(i + 1, n - i - 1), ren [(160, 364)], ⟨⟨h, by dsimp only; omega, by simp only [allN, hA, Bool.true_and]; exact h2⟩, by dsimp only; omega⟩, rfl, ⟨rfl, rfl, rfl, rfl, rfl, rfl, trivial⟩, ⟨rfl, trivial⟩⟩
  · have h : i = n.toNat := by simp at h; omega
    subst h
    have eC : soC lo si n s0 = true := by rw [eC, hA]
    clear hA
    repeat (first
      | (refine ⟨⟨by kernel_rfl, by kernel_rfl⟩, ?_⟩; conv => whnf)
      | (refine And.intro (by first | omega | (simp; done) | (simp; omega)) ?_; conv => whnf)
      | (refine Or.inl (And.intro (by omega) ?_); conv => whnf))
    all_goals (try (conv => whnf))
    all_goals (repeat' (first | exact True.intro | (refine And.intro ?_ ?_ <;> (conv => whnf))))
    all_goals (first | rfl | (simp_all [soO, soS, eC]; done) | (simp only [soO, soS, eC, cond_true, cond_false, Bool.and_true, Bool.true_and, Bool.and_false, Bool.false_and]; rfl) | (simp_all [soO, soS, eC]; omega))

def nxs (s : Int) : Nat → Int
  | 0 => s
  | r + 1 => nx (nxs s r)
theorem nxs_range (s : Int) (h : 0 ≤ s ∧ s ≤ 2147483647) : ∀ j, 0 ≤ nxs s j ∧ nxs s j ≤ 2147483647
  | 0 => h
  | j + 1 => nx_range _
noncomputable def dr (s : Int) (r k : Nat) : Nat := bif Nat.blt k r then dv (nxs s (k + 1)) else canon .f32 0
theorem stormsB_tab (f : Nat → S4) (m : Nat) (h : m ≤ 24) : stormsB (tabN f m) = allN (fun j => stV (f j)) m := by
  unfold stormsB
  rw [tabN_len, decide_eq_true h, Bool.true_and]
  exact allN_congr fun i hi => by rw [tabN_getD f hi]
theorem iStormsOf {n s0 : Int} {lo si : Nat} : Does Try.prog 21 [.int .i64 n, .flt .f32 lo, .flt .f32 si, .int .i64 s0] (.tup [.own 0 .f4 (soO lo si n s0), .int .i64 (soS lo si n s0), .bool (soC lo si n s0)]) := by
  refine Does.of_awp (X := cx 89) Try.func21 rfl (by kernel_rfl) rfl (by simp [cx]) [140] rfl ?_
  conv => whnf
  repeat (first
    | (refine ⟨⟨by kernel_rfl, by kernel_rfl⟩, ?_⟩; conv => whnf)
    | (refine And.intro (by first | omega | (simp; done) | (simp; omega)) ?_; conv => whnf)
    | (refine Or.inl (And.intro (by omega) ?_); conv => whnf)
    | (refine Exists.intro _ (And.intro (iWithin) ?_); conv => whnf))
  (refine br_intro (fun g1 => ?_) (fun g1 => ?_) <;> (conv => whnf))
  · have g1 : inR n 0 24 = false := by simpa using g1
    all_goals (try (conv => whnf))
    all_goals (repeat' (first | exact True.intro | (refine And.intro ?_ ?_ <;> (conv => whnf))))
    all_goals (first | rfl | (simp_all [soO, soS, soC]; done) | (simp only [soO, soS, soC, cond_true, cond_false, Bool.and_true, Bool.true_and, Bool.and_false, Bool.false_and]; rfl) | (simp_all [soO, soS, soC]; omega))
  have g1 : inR n 0 24 = true := by simpa using g1
  repeat (first
    | (refine ⟨⟨by kernel_rfl, by kernel_rfl⟩, ?_⟩; conv => whnf)
    | (refine And.intro (by first | omega | (simp; done) | (simp; omega)) ?_; conv => whnf)
    | (refine Or.inl (And.intro (by omega) ?_); conv => whnf)
    | (refine Exists.intro _ (And.intro (iLength) ?_); conv => whnf))
  (refine br_intro (fun g2 => ?_) (fun g2 => ?_) <;> (conv => whnf))
  · have g2 : above lo = false := by simpa using g2
    all_goals (try (conv => whnf))
    all_goals (repeat' (first | exact True.intro | (refine And.intro ?_ ?_ <;> (conv => whnf))))
    all_goals (first | rfl | (simp_all [soO, soS, soC]; done) | (simp only [soO, soS, soC, cond_true, cond_false, Bool.and_true, Bool.true_and, Bool.and_false, Bool.false_and]; rfl) | (simp_all [soO, soS, soC]; omega))
  have g2 : above lo = true := by simpa using g2
  repeat (first
    | (refine ⟨⟨by kernel_rfl, by kernel_rfl⟩, ?_⟩; conv => whnf)
    | (refine And.intro (by first | omega | (simp; done) | (simp; omega)) ?_; conv => whnf)
    | (refine Or.inl (And.intro (by omega) ?_); conv => whnf)
    | (refine Exists.intro _ (And.intro (iLength) ?_); conv => whnf))
  (refine br_intro (fun g3 => ?_) (fun g3 => ?_) <;> (conv => whnf))
  · have g3 : above si = false := by simpa using g3
    all_goals (try (conv => whnf))
    all_goals (repeat' (first | exact True.intro | (refine And.intro ?_ ?_ <;> (conv => whnf))))
    all_goals (first | rfl | (simp_all [soO, soS, soC]; done) | (simp only [soO, soS, soC, cond_true, cond_false, Bool.and_true, Bool.true_and, Bool.and_false, Bool.false_and]; rfl) | (simp_all [soO, soS, soC]; omega))
  have g3 : above si = true := by simpa using g3
  repeat (first
    | (refine ⟨⟨by kernel_rfl, by kernel_rfl⟩, ?_⟩; conv => whnf)
    | (refine And.intro (by first | omega | (simp; done) | (simp; omega)) ?_; conv => whnf)
    | (refine Or.inl (And.intro (by omega) ?_); conv => whnf)
    | (refine Exists.intro _ (And.intro (iSeed) ?_); conv => whnf))
  (refine br_intro (fun g4 => ?_) (fun g4 => ?_) <;> (conv => whnf))
  · have g4 : inR s0 0 2147483647 = false := by simpa using g4
    all_goals (try (conv => whnf))
    all_goals (repeat' (first | exact True.intro | (refine And.intro ?_ ?_ <;> (conv => whnf))))
    all_goals (first | rfl | (simp_all [soO, soS, soC]; done) | (simp only [soO, soS, soC, cond_true, cond_false, Bool.and_true, Bool.true_and, Bool.and_false, Bool.false_and]; rfl) | (simp_all [soO, soS, soC]; omega))
  have g4 : inR s0 0 2147483647 = true := by simpa using g4
  have hr : 0 ≤ s0 ∧ s0 ≤ 2147483647 := by simpa [inR] using g4
  have hn : 0 ≤ n ∧ n ≤ 24 := by simpa [inR] using g1
  have eC : soC lo si n s0 = allN (fun j => stV (soL lo si s0 j)) n.toNat := by simp [soC, g1, g2, g3, g4]
  clear g1 g2 g3 g4
  repeat (first
    | (refine ⟨⟨by kernel_rfl, by kernel_rfl⟩, ?_⟩; conv => whnf)
    | (refine And.intro (by first | omega | (simp; done) | (simp; omega)) ?_; conv => whnf)
    | (refine Or.inl (And.intro (by omega) ?_); conv => whnf))
  refine ⟨Nat, fun i => i ≤ n.toNat, fun i => [(1, .flt .f32 lo), (2, .flt .f32 si), (3, .int .i64 (soSt lo s0 i).2), (11, .osl 140), (12, .flt .f32 (soSt lo s0 i).1), (36, .int .i64 n), (37, .int .i64 i)], fun i => [(140, .tab .f4 (tabN (soL lo si s0) i))], fun i => n.toNat - i, ⟨0, id, Nat.zero_le _, rfl, ⟨rfl, rfl, rfl, rfl, rfl, rfl, rfl, trivial⟩, ⟨rfl, trivial⟩⟩, fun i hi => ?_⟩
  conv => whnf
  (refine br_intro (fun h => ?_) (fun h => ?_) <;> (conv => whnf))
  · have h : i < n.toNat := by simp at h; omega
    repeat (first
      | (refine ⟨⟨by kernel_rfl, by kernel_rfl⟩, ?_⟩; conv => whnf)
      | (refine And.intro (by first | omega | (simp; done) | (simp; omega)) ?_; conv => whnf)
      | (refine Or.inl (And.intro (by omega) ?_); conv => whnf))
    refine ⟨Nat, fun r => r ≤ 4, fun r => [(1, .flt .f32 lo), (2, .flt .f32 si), (3, .int .i64 (nxs (soSt lo s0 i).2 r)), (11, .osl 140), (12, .flt .f32 (soSt lo s0 i).1), (13, .loc 52 0), (36, .int .i64 n), (37, .int .i64 i), (40, .int .i64 r)], fun r => [(140, .tab .f4 (tabN (soL lo si s0) i)), (52, .av [.flt .f32 (dr (soSt lo s0 i).2 r 0), .flt .f32 (dr (soSt lo s0 i).2 r 1), .flt .f32 (dr (soSt lo s0 i).2 r 2), .flt .f32 (dr (soSt lo s0 i).2 r 3)])], fun r => 4 - r, ⟨0, id, Nat.zero_le _, rfl, ⟨rfl, rfl, rfl, rfl, rfl, rfl, rfl, rfl, rfl, trivial⟩, ⟨rfl, rfl, trivial⟩⟩, fun r hr4 => ?_⟩
    have rr := nxs_range (soSt lo s0 i).2 (soSt_range lo s0 hr i) r
    have rn := nx_range (nxs (soSt lo s0 i).2 r)
    have hr4' : r = 0 ∨ r = 1 ∨ r = 2 ∨ r = 3 ∨ r = 4 := by dsimp only at hr4; omega
    rcases hr4' with rfl | rfl | rfl | rfl | rfl
    · conv => whnf
      repeat (first
        | (refine ⟨⟨by kernel_rfl, by kernel_rfl⟩, ?_⟩; conv => whnf)
        | (refine And.intro (by first | omega | (simp; done) | (simp; omega)) ?_; conv => whnf)
        | (refine Or.inl (And.intro (by omega) ?_); conv => whnf)
        | (refine br_intro (fun h => by exfalso; first | (simp at h; done) | (simp at h; omega) | omega) (fun _ => ?_); conv => whnf)
        | (refine br_intro (fun _ => ?_) (fun h => by exfalso; first | (simp at h; done) | (simp at h; omega) | omega); conv => whnf)
        | (refine Exists.intro _ (And.intro (iDraw rr) ?_); conv => whnf))
      refine ⟨1, id, ⟨by dsimp only; omega, by dsimp only; omega⟩, rfl, ⟨rfl, rfl, rfl, rfl, rfl, rfl, rfl, rfl, rfl, trivial⟩, ⟨rfl, rfl, trivial⟩⟩
    · conv => whnf
      repeat (first
        | (refine ⟨⟨by kernel_rfl, by kernel_rfl⟩, ?_⟩; conv => whnf)
        | (refine And.intro (by first | omega | (simp; done) | (simp; omega)) ?_; conv => whnf)
        | (refine Or.inl (And.intro (by omega) ?_); conv => whnf)
        | (refine br_intro (fun h => by exfalso; first | (simp at h; done) | (simp at h; omega) | omega) (fun _ => ?_); conv => whnf)
        | (refine br_intro (fun _ => ?_) (fun h => by exfalso; first | (simp at h; done) | (simp at h; omega) | omega); conv => whnf)
        | (refine Exists.intro _ (And.intro (iDraw rr) ?_); conv => whnf))
      refine ⟨2, id, ⟨by dsimp only; omega, by dsimp only; omega⟩, rfl, ⟨rfl, rfl, rfl, rfl, rfl, rfl, rfl, rfl, rfl, trivial⟩, ⟨rfl, rfl, trivial⟩⟩
    · conv => whnf
      repeat (first
        | (refine ⟨⟨by kernel_rfl, by kernel_rfl⟩, ?_⟩; conv => whnf)
        | (refine And.intro (by first | omega | (simp; done) | (simp; omega)) ?_; conv => whnf)
        | (refine Or.inl (And.intro (by omega) ?_); conv => whnf)
        | (refine br_intro (fun h => by exfalso; first | (simp at h; done) | (simp at h; omega) | omega) (fun _ => ?_); conv => whnf)
        | (refine br_intro (fun _ => ?_) (fun h => by exfalso; first | (simp at h; done) | (simp at h; omega) | omega); conv => whnf)
        | (refine Exists.intro _ (And.intro (iDraw rr) ?_); conv => whnf))
      refine ⟨3, id, ⟨by dsimp only; omega, by dsimp only; omega⟩, rfl, ⟨rfl, rfl, rfl, rfl, rfl, rfl, rfl, rfl, rfl, trivial⟩, ⟨rfl, rfl, trivial⟩⟩
    · conv => whnf
      repeat (first
        | (refine ⟨⟨by kernel_rfl, by kernel_rfl⟩, ?_⟩; conv => whnf)
        | (refine And.intro (by first | omega | (simp; done) | (simp; omega)) ?_; conv => whnf)
        | (refine Or.inl (And.intro (by omega) ?_); conv => whnf)
        | (refine br_intro (fun h => by exfalso; first | (simp at h; done) | (simp at h; omega) | omega) (fun _ => ?_); conv => whnf)
        | (refine br_intro (fun _ => ?_) (fun h => by exfalso; first | (simp at h; done) | (simp at h; omega) | omega); conv => whnf)
        | (refine Exists.intro _ (And.intro (iDraw rr) ?_); conv => whnf))
      refine ⟨4, id, ⟨by dsimp only; omega, by dsimp only; omega⟩, rfl, ⟨rfl, rfl, rfl, rfl, rfl, rfl, rfl, rfl, rfl, trivial⟩, ⟨rfl, rfl, trivial⟩⟩
    · conv => whnf
      repeat (first
        | (refine ⟨⟨by kernel_rfl, by kernel_rfl⟩, ?_⟩; conv => whnf)
        | (refine And.intro (by first | omega | (simp; done) | (simp; omega)) ?_; conv => whnf)
        | (refine Or.inl (And.intro (by omega) ?_); conv => whnf)
        | (refine br_intro (fun h => by exfalso; first | (simp at h; done) | (simp at h; omega) | omega) (fun _ => ?_); conv => whnf)
        | (refine br_intro (fun _ => ?_) (fun h => by exfalso; first | (simp at h; done) | (simp at h; omega) | omega); conv => whnf))
      refine ⟨i + 1, ren [(140, 328)], ⟨h, by dsimp only; omega⟩, rfl, ⟨rfl, rfl, rfl, rfl, rfl, rfl, rfl, trivial⟩, ⟨rfl, trivial⟩⟩
  · have h : i = n.toNat := by simp at h; omega
    subst h
    repeat (first
      | (refine ⟨⟨by kernel_rfl, by kernel_rfl⟩, ?_⟩; conv => whnf)
      | (refine And.intro (by first | omega | (simp; done) | (simp; omega)) ?_; conv => whnf)
      | (refine Or.inl (And.intro (by omega) ?_); conv => whnf)
      | (refine Exists.intro _ (And.intro (iStorms (by first | omega | (simp; done) | (simp; omega))) ?_); conv => whnf))
    (refine br_intro (fun h6 => ?_) (fun h6 => ?_) <;> (conv => whnf))
    · have h6 : (!stormsB (tabN (soL lo si s0) n.toNat)) = true := h6
      have eC : soC lo si n s0 = false := by rw [eC, ← stormsB_tab _ _ (by omega)]; simpa using h6
      clear h6
      all_goals (try (conv => whnf))
      all_goals (repeat' (first | exact True.intro | (refine And.intro ?_ ?_ <;> (conv => whnf))))
      all_goals (first | rfl | (simp_all [soO, soS, eC]; done) | (simp only [soO, soS, eC, cond_true, cond_false, Bool.and_true, Bool.true_and, Bool.and_false, Bool.false_and]; rfl) | (simp_all [soO, soS, eC]; omega))
    · have h6 : (!stormsB (tabN (soL lo si s0) n.toNat)) = false := h6
      have eC : soC lo si n s0 = true := by rw [eC, ← stormsB_tab _ _ (by omega)]; simpa using h6
      clear h6
      all_goals (try (conv => whnf))
      all_goals (repeat' (first | exact True.intro | (refine And.intro ?_ ?_ <;> (conv => whnf))))
      all_goals (first | rfl | (simp_all [soO, soS, eC]; done) | (simp only [soO, soS, eC, cond_true, cond_false, Bool.and_true, Bool.true_and, Bool.and_false, Bool.false_and]; rfl) | (simp_all [soO, soS, eC]; omega))

end Go.Proofs.Ytnepjbnoaemmdaa
