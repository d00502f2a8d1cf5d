/- What each function of this seat does (Snw). Printed from templates of this seat's own. -/
import Derived.Test.YtddedcedkpigkaaDrw
namespace Go.Proofs.Ytddedcedkpigkaa
open Go.Ax Go.Bx
set_option maxRecDepth 8000
set_option linter.unusedSimpArgs false
set_option linter.unusedVariables false
noncomputable def snM (a c warm tick : Nat) : Nat := bif fcmp .gtr .f32 (fop .mul .f32 (fop .mul .f32 a warm) tick) c then c else fop .mul .f32 (fop .mul .f32 a warm) tick
noncomputable def snC (a c fall warm tick : Nat) : Nat := bif fcmp .leq .f32 warm (canon .f32 0) then fop .add .f32 c fall else fop .sub .f32 c (snM a c warm tick)
noncomputable def snD1 (a c d fall warm tick : Nat) : Nat := bif fcmp .leq .f32 warm (canon .f32 0) then d else fop .add .f32 d (fop .add .f32 (snM a c warm tick) fall)
noncomputable def snR0 (a b c d fall warm tick : Nat) : Nat := fop .sub .f32 (snD1 a c d fall warm tick) (fop .mul .f32 b (snC a c fall warm tick))
noncomputable def snB (a b c d fall warm tick : Nat) : Bool := fcmp .gtr .f32 (snR0 a b c d fall warm tick) (canon .f32 0)
noncomputable def snD (a b c d fall warm tick : Nat) : Nat := bif snB a b c d fall warm tick then fop .mul .f32 b (snC a c fall warm tick) else snD1 a c d fall warm tick
noncomputable def snR (a b c d fall warm tick : Nat) : Nat := bif snB a b c d fall warm tick then snR0 a b c d fall warm tick else canon .f32 0
def snV (a b c d : Nat) : Bool := least a && share b && least c && least d
noncomputable def snOk (a b c d fall warm tick : Nat) : Bool := snV a b (snC a c fall warm tick) (snD a b c d fall warm tick) && fin (snR a b c d fall warm tick)
def sel (ok : Bool) (x : Nat) : Nat := bif ok then x else canon .f32 0
def snA (a b c d : Nat) : AV := .agg [.flt .f32 a, .flt .f32 b, .flt .f32 c, .flt .f32 d]
noncomputable def snStep (a b c d fall warm tick : Nat) : AV :=
  .tup [.agg [.flt .f32 (sel (snOk a b c d fall warm tick) a), .flt .f32 (sel (snOk a b c d fall warm tick) b), .flt .f32 (sel (snOk a b c d fall warm tick) (snC a c fall warm tick)), .flt .f32 (sel (snOk a b c d fall warm tick) (snD a b c d fall warm tick))], .flt .f32 (sel (snOk a b c d fall warm tick) (snR a b c d fall warm tick)), .bool (snOk a b c d fall warm tick)]
theorem fin_zero : fin (canon .f32 0) = true := by kernel_rfl

theorem iSnow {a b c d : Nat} : Does Try.prog 11 [.agg [.flt .f32 a, .flt .f32 b, .flt .f32 c, .flt .f32 d]] (.bool (snV a b c d)) := by
  refine Does.of_awp (X := cx 21) Try.func11 rfl (by kernel_rfl) rfl (by simp [cx]) [] rfl ?_
  conv => whnf
  repeat' (first
    | (refine br_intro (fun h => ?_) (fun h => ?_) <;> (conv => whnf))
    | (refine ⟨⟨by kernel_rfl, by kernel_rfl⟩, ?_⟩; conv => whnf)
    | (refine And.intro (by first | omega | (simp; done) | (simp; omega)) ?_; conv => whnf)
    | (refine Or.inl (And.intro (by omega) ?_); conv => whnf)
    | (refine Exists.intro _ (And.intro (iLeastL (by first | omega | (simp; done) | (simp; omega))) ?_); conv => whnf))
  all_goals (try (conv => whnf))
  all_goals (repeat' (first | exact True.intro | (refine And.intro ?_ ?_ <;> (conv => whnf))))
  all_goals (first | rfl | (simp_all [snV, leastL, allN, share, K]; done) | (simp only [snV, leastL, allN, share, K, cond_true, cond_false, Bool.and_true, Bool.true_and, Bool.and_false, Bool.false_and]; rfl) | (simp_all [snV, leastL, allN, share, K]; omega))

theorem iStepSnow {a b c d fall warm tick : Nat} (hv : snV a b c d = true) (hf : least fall = true) (hw : fin warm = true) (ht : above tick = true) : Does Try.prog 14 [.agg [.flt .f32 a, .flt .f32 b, .flt .f32 c, .flt .f32 d], .flt .f32 fall, .flt .f32 warm, .flt .f32 tick] (snStep a b c d fall warm tick) := by
  refine Does.of_awp (X := cx 92) Try.func14 rfl (by kernel_rfl) rfl (by simp [cx]) [] rfl ?_
  conv => whnf
  have e1 := @iSnow a b c d; rw [hv] at e1
  have e2 := @iMass fall; rw [hf] at e2
  have e3 := @iIsFinite warm; rw [hw] at e3
  have e4 := @iLength tick; rw [ht] at e4
  repeat (first
    | (refine ⟨⟨by kernel_rfl, by kernel_rfl⟩, ?_⟩; conv => whnf)
    | (refine And.intro (by first | omega | (simp; done) | (simp; omega)) ?_; conv => whnf)
    | (refine Or.inl (And.intro (by omega) ?_); conv => whnf)
    | (refine Exists.intro _ (And.intro (e1) ?_); conv => whnf)
    | (refine Exists.intro _ (And.intro (e2) ?_); conv => whnf)
    | (refine Exists.intro _ (And.intro (e3) ?_); conv => whnf)
    | (refine Exists.intro _ (And.intro (e4) ?_); conv => whnf))
  repeat' (first
    | (refine br_intro (fun h => ?_) (fun h => ?_) <;> (conv => whnf))
    | (refine ⟨⟨by kernel_rfl, by kernel_rfl⟩, ?_⟩; conv => whnf)
    | (refine And.intro (by first | omega | (simp; done) | (simp; omega)) ?_; conv => whnf)
    | (refine Or.inl (And.intro (by omega) ?_); conv => whnf)
    | (refine Exists.intro _ (And.intro (iSnow) ?_); conv => whnf)
    | (refine Exists.intro _ (And.intro (iIsFinite) ?_); conv => whnf))
  all_goals (try (conv => whnf))
  all_goals (repeat' (first | exact True.intro | (refine And.intro ?_ ?_ <;> (conv => whnf))))
  all_goals (first | rfl | (simp_all [snOk, snR, snD, snB, snR0, snD1, snC, snM, sel, fin_zero]; done) | (simp only [snOk, snR, snD, snB, snR0, snD1, snC, snM, sel, fin_zero, cond_true, cond_false, Bool.and_true, Bool.true_and, Bool.and_false, Bool.false_and]; rfl) | (simp_all [snOk, snR, snD, snB, snR0, snD1, snC, snM, sel, fin_zero]; omega))

end Go.Proofs.Ytddedcedkpigkaa
