/- What each function of this seat does (Sol). Printed from templates of this seat's own. -/
import Derived.Test.YtddedcedkpigkaaSam
namespace Go.Proofs.Ytddedcedkpigkaa
open Go.Ax Go.Bx
set_option maxRecDepth 8000
set_option linter.unusedSimpArgs false
set_option linter.unusedVariables false
def soV (a b c d e : Nat) : Bool := leastL [a, b, c, d] && fcmp .geq .f32 e (K 0) && fcmp .leq .f32 e c
def soCan (a b e : Nat) : Nat := fop .mul .f32 a (fop .add .f32 (K 1065353216) (fop .quo .f32 b (fop .add .f32 (K 1065353216) e)))
section
variable (a b c d e fall tick : Nat)
def soG (i : Nat) : Nat := [fop .mul .f32 (soCan a b e) tick, fop .sub .f32 c e].getD i 0
def soT : Nat → Nat
  | 0 => fall
  | i + 1 => bif fcmp .lss .f32 (soG a b c e tick i) (soT i) then soG a b c e tick i else soT i
def soW1 : Nat := bif fcmp .gtr .f32 (fop .add .f32 e (soT a b c e fall tick 2)) c then c else fop .add .f32 e (soT a b c e fall tick 2)
def soL : Nat := bif fcmp .gtr .f32 (fop .mul .f32 (fop .mul .f32 (soW1 a b c e fall tick) d) tick) (soW1 a b c e fall tick) then soW1 a b c e fall tick else fop .mul .f32 (fop .mul .f32 (soW1 a b c e fall tick) d) tick
def soE : Nat := fop .sub .f32 (soW1 a b c e fall tick) (soL a b c d e fall tick)
def soO : Nat := fop .sub .f32 fall (soT a b c e fall tick 2)
end

theorem iSoil {a b c d e : Nat} : Does Try.prog 20 [.agg [.flt .f32 a, .flt .f32 b, .flt .f32 c, .flt .f32 d, .flt .f32 e]] (.bool (soV a b c d e)) := by
  refine Does.of_awp (X := cx 25) Try.func20 rfl (by kernel_rfl) rfl (by simp [cx]) [] rfl ?_
  conv => whnf
  repeat' (first
    | (refine br_intro (fun h => ?_) (fun h => ?_) <;> (conv => whnf))
    | (refine ⟨⟨by kernel_rfl, by kernel_rfl⟩, ?_⟩; conv => whnf)
    | (refine And.intro (by first | omega | (simp; done) | (simp; omega)) ?_; conv => whnf)
    | (refine Or.inl (And.intro (by omega) ?_); conv => whnf)
    | (refine Exists.intro _ (And.intro (iLeastL (by first | omega | (simp; done) | (simp; omega))) ?_); conv => whnf))
  all_goals (try (conv => whnf))
  all_goals (repeat' (first | exact True.intro | (refine And.intro ?_ ?_ <;> (conv => whnf))))
  all_goals (first | rfl | (simp_all [soV, K]; done) | (simp only [soV, K, cond_true, cond_false, Bool.and_true, Bool.true_and, Bool.and_false, Bool.false_and]; rfl) | (simp_all [soV, K]; omega))

theorem iCan {a b c d e : Nat} : Does Try.prog 38 [.agg [.flt .f32 a, .flt .f32 b, .flt .f32 c, .flt .f32 d, .flt .f32 e]] (.flt .f32 (soCan a b e)) := by
  refine Does.of_awp (X := cx 13) Try.func38 rfl (by kernel_rfl) rfl (by simp [cx]) [] rfl ?_
  conv => whnf
  repeat (first
    | (refine ⟨⟨by kernel_rfl, by kernel_rfl⟩, ?_⟩; conv => whnf)
    | (refine And.intro (by first | omega | (simp; done) | (simp; omega)) ?_; conv => whnf)
    | (refine Or.inl (And.intro (by omega) ?_); conv => whnf))
  all_goals (try (conv => whnf))
  all_goals (repeat' (first | exact True.intro | (refine And.intro ?_ ?_ <;> (conv => whnf))))
  all_goals (first | rfl | (simp_all [soCan, K]; done) | (simp only [soCan, K, cond_true, cond_false, Bool.and_true, Bool.true_and, Bool.and_false, Bool.false_and]; rfl) | (simp_all [soCan, K]; omega))

theorem iNumber {x : Nat} : Does Try.prog 37 [.flt .f32 x] (.tup [.flt .f32 (bif fin x then x else canon .f32 0), .bool (fin x)]) := by
  refine Does.of_awp (X := cx 8) Try.func37 rfl (by kernel_rfl) rfl (by simp [cx]) [] rfl ?_
  conv => whnf
  repeat' (first
    | (refine br_intro (fun h => ?_) (fun h => ?_) <;> (conv => whnf))
    | (refine ⟨⟨by kernel_rfl, by kernel_rfl⟩, ?_⟩; conv => whnf)
    | (refine And.intro (by first | omega | (simp; done) | (simp; omega)) ?_; conv => whnf)
    | (refine Or.inl (And.intro (by omega) ?_); conv => whnf)
    | (refine Exists.intro _ (And.intro (iIsFinite) ?_); conv => whnf))
  all_goals (try (conv => whnf))
  all_goals (repeat' (first | exact True.intro | (refine And.intro ?_ ?_ <;> (conv => whnf))))
  all_goals (first | rfl | (simp_all []; done) | (simp only [cond_true, cond_false, Bool.and_true, Bool.true_and, Bool.and_false, Bool.false_and]; rfl) | (simp_all []; omega))

theorem iCanTake {a b c d e : Nat} (hv : soV a b c d e = true) (hf : fin (soCan a b e) = true) : Does Try.prog 19 [.agg [.flt .f32 a, .flt .f32 b, .flt .f32 c, .flt .f32 d, .flt .f32 e]] (.tup [.flt .f32 (soCan a b e), .bool true]) := by
  have e1 := @iSoil a b c d e; rw [hv] at e1
  have e2 := @iNumber (soCan a b e); rw [hf] at e2
  refine Does.of_awp (X := cx 12) Try.func19 rfl (by kernel_rfl) rfl (by simp [cx]) [] rfl ?_
  conv => whnf
  repeat (first
    | (refine ⟨⟨by kernel_rfl, by kernel_rfl⟩, ?_⟩; conv => whnf)
    | (refine And.intro (by first | omega | (simp; done) | (simp; omega)) ?_; conv => whnf)
    | (refine Or.inl (And.intro (by omega) ?_); conv => whnf)
    | (refine Exists.intro _ (And.intro (e1) ?_); conv => whnf)
    | (refine Exists.intro _ (And.intro (iCan) ?_); conv => whnf)
    | (refine Exists.intro _ (And.intro (e2) ?_); conv => whnf))
  all_goals (try (conv => whnf))
  all_goals (repeat' (first | exact True.intro | (refine And.intro ?_ ?_ <;> (conv => whnf))))
  all_goals (first | rfl | (simp_all []; done) | (simp only [cond_true, cond_false, Bool.and_true, Bool.true_and, Bool.and_false, Bool.false_and]; rfl) | (simp_all []; omega))

theorem iStepSoil {a b c d e fall tick : Nat} (hv : soV a b c d e = true) (hf : least fall = true) (ht : above tick = true) (hv' : soV a b c d (soE a b c d e fall tick) = true) (ho : fin (soO a b c e fall tick) = true) (hl : fin (soL a b c d e fall tick) = true) :
    Does Try.prog 21 [.agg [.flt .f32 a, .flt .f32 b, .flt .f32 c, .flt .f32 d, .flt .f32 e], .flt .f32 fall, .flt .f32 tick] (.tup [.agg [.flt .f32 a, .flt .f32 b, .flt .f32 c, .flt .f32 d, .flt .f32 (soE a b c d e fall tick)], .flt .f32 (soO a b c e fall tick), .flt .f32 (soL a b c d e fall tick), .bool true]) := by
  have e1 := @iSoil a b c d e; rw [hv] at e1
  have e2 := @iMass fall; rw [hf] at e2
  have e3 := @iLength tick; rw [ht] at e3
  have e4 := @iSoil a b c d (soE a b c d e fall tick); rw [hv'] at e4
  have e5 : ∀ t, Does Try.prog 30 [.sli .f32 [soO a b c e fall tick, soL a b c d e fall tick] t] (.bool true) := fun t => by
    have := iFinL (xs := [soO a b c e fall tick, soL a b c d e fall tick]) (t := t) (by simp)
    rwa [show finL [soO a b c e fall tick, soL a b c d e fall tick] = true by simp [finL, allN, ho, hl]] at this
  refine Does.of_awp (X := cx 98) Try.func21 rfl (by kernel_rfl) rfl (by simp [cx]) [] rfl ?_
  conv => whnf
  repeat (first
    | (refine ⟨⟨by kernel_rfl, by kernel_rfl⟩, ?_⟩; conv => whnf)
    | (refine And.intro (by first | omega | (simp; done) | (simp; omega)) ?_; conv => whnf)
    | (refine Or.inl (And.intro (by omega) ?_); conv => whnf)
    | (refine Exists.intro _ (And.intro (e1) ?_); conv => whnf)
    | (refine Exists.intro _ (And.intro (e2) ?_); conv => whnf)
    | (refine Exists.intro _ (And.intro (e3) ?_); conv => whnf)
    | (refine Exists.intro _ (And.intro (iCan) ?_); conv => whnf))
  refine ⟨Nat, fun i => i ≤ 2, fun i => [(1, .flt .f32 fall), (2, .flt .f32 tick), (3, .loc 12 0), (6, .loc 24 0), (10, .flt .f32 (soT a b c e fall tick i)), (39, .osl 156), (40, .int .i64 2), (41, .int .i64 i)], fun i => [(12, .av [.flt .f32 a, .flt .f32 b, .flt .f32 c, .flt .f32 d, .flt .f32 e]), (24, .av [.flt .f32 (canon .f32 0), .flt .f32 (canon .f32 0), .flt .f32 (canon .f32 0), .flt .f32 (canon .f32 0), .flt .f32 (canon .f32 0)]), (156, .tab .f32 [fop .mul .f32 (soCan a b e) tick, fop .sub .f32 c e])], fun i => 2 - i, ⟨0, id, Nat.zero_le _, rfl, ⟨rfl, rfl, rfl, rfl, rfl, rfl, rfl, rfl, trivial⟩, ⟨rfl, rfl, rfl, trivial⟩⟩, fun i hi => ?_⟩
  conv => whnf
  (refine br_intro (fun h => ?_) (fun h => ?_) <;> (conv => whnf))
  · have h : i < 2 := by simp at h; omega
    repeat (first
      | (refine ⟨⟨by kernel_rfl, by kernel_rfl⟩, ?_⟩; conv => whnf)
      | (refine And.intro (by first | omega | (simp; done) | (simp; omega)) ?_; conv => whnf)
      | (refine Or.inl (And.intro (by omega) ?_); conv => whnf))
    (refine br_intro (fun g => ?_) (fun g => ?_) <;> (conv => whnf))
    · repeat (first
        | (refine ⟨⟨by kernel_rfl, by kernel_rfl⟩, ?_⟩; conv => whnf)
        | (refine And.intro (by first | omega | (simp; done) | (simp; omega)) ?_; conv => whnf)
        | (refine Or.inl (And.intro (by omega) ?_); conv => whnf))
      refine ⟨i + 1, id, ⟨h, by dsimp only; omega⟩, rfl, ⟨rfl, rfl, rfl, rfl, congrArg (AV.flt .f32) (show soG a b c e tick i = soT a b c e fall tick (i + 1) by rw [soT, show fcmp .lss .f32 (soG a b c e tick i) (soT a b c e fall tick i) = true from g, cond_true]), rfl, rfl, rfl, trivial⟩, ⟨rfl, rfl, rfl, trivial⟩⟩
    · repeat (first
        | (refine ⟨⟨by kernel_rfl, by kernel_rfl⟩, ?_⟩; conv => whnf)
        | (refine And.intro (by first | omega | (simp; done) | (simp; omega)) ?_; conv => whnf)
        | (refine Or.inl (And.intro (by omega) ?_); conv => whnf))
      refine ⟨i + 1, id, ⟨h, by dsimp only; omega⟩, rfl, ⟨rfl, rfl, rfl, rfl, congrArg (AV.flt .f32) (show soT a b c e fall tick i = soT a b c e fall tick (i + 1) by rw [soT, show fcmp .lss .f32 (soG a b c e tick i) (soT a b c e fall tick i) = false from g, cond_false]), rfl, rfl, rfl, trivial⟩, ⟨rfl, rfl, rfl, trivial⟩⟩
  have h : i = 2 := by simp at h; omega
  subst h
  have eo : soO a b c e fall tick = fop .sub .f32 fall (soT a b c e fall tick 2) := rfl
  have w1 : soW1 a b c e fall tick = bif fcmp .gtr .f32 (fop .add .f32 e (soT a b c e fall tick 2)) c then c else fop .add .f32 e (soT a b c e fall tick 2) := rfl
  have fin2 : ∀ {w : Nat}, soW1 a b c e fall tick = w → soL a b c d e fall tick = bif fcmp .gtr .f32 (fop .mul .f32 (fop .mul .f32 w d) tick) w then w else fop .mul .f32 (fop .mul .f32 w d) tick := fun h => by rw [soL, h]
  have fin3 : ∀ {w l : Nat}, soW1 a b c e fall tick = w → soL a b c d e fall tick = l → soE a b c d e fall tick = fop .sub .f32 w l := fun h1 h2 => by rw [soE, h1, h2]
  repeat (first
    | (refine ⟨⟨by kernel_rfl, by kernel_rfl⟩, ?_⟩; conv => whnf)
    | (refine And.intro (by first | omega | (simp; done) | (simp; omega)) ?_; conv => whnf)
    | (refine Or.inl (And.intro (by omega) ?_); conv => whnf))
  (refine br_intro (fun g1 => ?_) (fun g1 => ?_) <;> (conv => whnf))
  · rw [show fcmp .gtr .f32 (fop .add .f32 e (soT a b c e fall tick 2)) c = true from g1, cond_true] at w1
    have l1 := fin2 w1
    repeat (first
      | (refine ⟨⟨by kernel_rfl, by kernel_rfl⟩, ?_⟩; conv => whnf)
      | (refine And.intro (by first | omega | (simp; done) | (simp; omega)) ?_; conv => whnf)
      | (refine Or.inl (And.intro (by omega) ?_); conv => whnf))
    (refine br_intro (fun g2 => ?_) (fun g2 => ?_) <;> (conv => whnf))
    · rw [show fcmp .gtr .f32 (fop .mul .f32 (fop .mul .f32 c d) tick) c = true from g2, cond_true] at l1
      have x1 := fin3 w1 l1
      rw [x1] at e4 ⊢
      rw [eo, l1] at e5 ⊢
      repeat (first
        | (refine ⟨⟨by kernel_rfl, by kernel_rfl⟩, ?_⟩; conv => whnf)
        | (refine And.intro (by first | omega | (simp; done) | (simp; omega)) ?_; conv => whnf)
        | (refine Or.inl (And.intro (by omega) ?_); conv => whnf)
        | (refine Exists.intro _ (And.intro (e4) ?_); conv => whnf)
        | (refine Exists.intro _ (And.intro (e5 _) ?_); conv => whnf))
      all_goals (try (conv => whnf))
      all_goals (repeat' (first | exact True.intro | (refine And.intro ?_ ?_ <;> (conv => whnf))))
      all_goals (first | rfl | (simp_all []; done) | (simp only [cond_true, cond_false, Bool.and_true, Bool.true_and, Bool.and_false, Bool.false_and]; rfl) | (simp_all []; omega))
    · rw [show fcmp .gtr .f32 (fop .mul .f32 (fop .mul .f32 c d) tick) c = false from g2, cond_false] at l1
      have x1 := fin3 w1 l1
      rw [x1] at e4 ⊢
      rw [eo, l1] at e5 ⊢
      repeat (first
        | (refine ⟨⟨by kernel_rfl, by kernel_rfl⟩, ?_⟩; conv => whnf)
        | (refine And.intro (by first | omega | (simp; done) | (simp; omega)) ?_; conv => whnf)
        | (refine Or.inl (And.intro (by omega) ?_); conv => whnf)
        | (refine Exists.intro _ (And.intro (e4) ?_); conv => whnf)
        | (refine Exists.intro _ (And.intro (e5 _) ?_); conv => whnf))
      all_goals (try (conv => whnf))
      all_goals (repeat' (first | exact True.intro | (refine And.intro ?_ ?_ <;> (conv => whnf))))
      all_goals (first | rfl | (simp_all []; done) | (simp only [cond_true, cond_false, Bool.and_true, Bool.true_and, Bool.and_false, Bool.false_and]; rfl) | (simp_all []; omega))
  · rw [show fcmp .gtr .f32 (fop .add .f32 e (soT a b c e fall tick 2)) c = false from g1, cond_false] at w1
    have l1 := fin2 w1
    repeat (first
      | (refine ⟨⟨by kernel_rfl, by kernel_rfl⟩, ?_⟩; conv => whnf)
      | (refine And.intro (by first | omega | (simp; done) | (simp; omega)) ?_; conv => whnf)
      | (refine Or.inl (And.intro (by omega) ?_); conv => whnf))
    (refine br_intro (fun g2 => ?_) (fun g2 => ?_) <;> (conv => whnf))
    · rw [show fcmp .gtr .f32 (fop .mul .f32 (fop .mul .f32 (fop .add .f32 e (soT a b c e fall tick 2)) d) tick) (fop .add .f32 e (soT a b c e fall tick 2)) = true from g2, cond_true] at l1
      have x1 := fin3 w1 l1
      rw [x1] at e4 ⊢
      rw [eo, l1] at e5 ⊢
      repeat (first
        | (refine ⟨⟨by kernel_rfl, by kernel_rfl⟩, ?_⟩; conv => whnf)
        | (refine And.intro (by first | omega | (simp; done) | (simp; omega)) ?_; conv => whnf)
        | (refine Or.inl (And.intro (by omega) ?_); conv => whnf)
        | (refine Exists.intro _ (And.intro (e4) ?_); conv => whnf)
        | (refine Exists.intro _ (And.intro (e5 _) ?_); conv => whnf))
      all_goals (try (conv => whnf))
      all_goals (repeat' (first | exact True.intro | (refine And.intro ?_ ?_ <;> (conv => whnf))))
      all_goals (first | rfl | (simp_all []; done) | (simp only [cond_true, cond_false, Bool.and_true, Bool.true_and, Bool.and_false, Bool.false_and]; rfl) | (simp_all []; omega))
    · rw [show fcmp .gtr .f32 (fop .mul .f32 (fop .mul .f32 (fop .add .f32 e (soT a b c e fall tick 2)) d) tick) (fop .add .f32 e (soT a b c e fall tick 2)) = false from g2, cond_false] at l1
      have x1 := fin3 w1 l1
      rw [x1] at e4 ⊢
      rw [eo, l1] at e5 ⊢
      repeat (first
        | (refine ⟨⟨by kernel_rfl, by kernel_rfl⟩, ?_⟩; conv => whnf)
        | (refine And.intro (by first | omega | (simp; done) | (simp; omega)) ?_; conv => whnf)
        | (refine Or.inl (And.intro (by omega) ?_); conv => whnf)
        | (refine Exists.intro _ (And.intro (e4) ?_); conv => whnf)
        | (refine Exists.intro _ (And.intro (e5 _) ?_); conv => whnf))
      all_goals (try (conv => whnf))
      all_goals (repeat' (first | exact True.intro | (refine And.intro ?_ ?_ <;> (conv => whnf))))
      all_goals (first | rfl | (simp_all []; done) | (simp only [cond_true, cond_false, Bool.and_true, Bool.true_and, Bool.and_false, Bool.false_and]; rfl) | (simp_all []; omega))

end Go.Proofs.Ytddedcedkpigkaa
