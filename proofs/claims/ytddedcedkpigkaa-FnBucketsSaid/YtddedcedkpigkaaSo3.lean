/- What each function of this seat does (So3). Printed from templates of this seat's own. -/
import Derived.Test.YtddedcedkpigkaaSo2
import Derived.Test.YtddedcedkpigkaaFs2
namespace Go.Proofs.Ytddedcedkpigkaa
open Go.Ax Go.Bx
set_option maxRecDepth 8000
set_option linter.unusedSimpArgs false
set_option linter.unusedVariables false
section
variable (a b c d e : Nat) (fs : List Nat) (tick : Nat)
def soS : Nat → Nat
  | 0 => e
  | i + 1 => soE a b c d (soS i) (fs.getD i 0) tick
def soOff (i : Nat) : Nat := soO a b c (soS a b c d e fs tick i) (fs.getD i 0) tick
def soLet (i : Nat) : Nat := soL a b c d (soS a b c d e fs tick i) (fs.getD i 0) tick
end

theorem iRunSoil {a b c d e tick : Nat} {fs : List Nat} {t : AV} (hn : fs.length ≤ 1048576) (hr : rainB fs = true) (ht : above tick = true) (hv : ∀ i, i ≤ fs.length → soV a b c d (soS a b c d e fs tick i) = true)
    (ho : ∀ i, i < fs.length → fin (soOff a b c d e fs tick i) = true) (hl : ∀ i, i < fs.length → fin (soLet a b c d e fs tick i) = true) :
    Does Try.prog 18 [.agg [.flt .f32 a, .flt .f32 b, .flt .f32 c, .flt .f32 d, .flt .f32 e], .sli .f32 fs t, .flt .f32 tick]
      (.tup [.agg [.flt .f32 a, .flt .f32 b, .flt .f32 c, .flt .f32 d, .flt .f32 (soS a b c d e fs tick fs.length)], .own 0 .f32 (tabN (soOff a b c d e fs tick) fs.length), .own 1 .f32 (tabN (soLet a b c d e fs tick) fs.length), .bool true]) := by
  have e1 : Does Try.prog 20 [.agg [.flt .f32 a, .flt .f32 b, .flt .f32 c, .flt .f32 d, .flt .f32 e]] (.bool true) := (show soV a b c d e = true from hv 0 (Nat.zero_le _)) ▸ iSoil
  have e2 : ∀ t, Does Try.prog 29 [.sli .f32 fs t] (.bool true) := fun t => hr ▸ iIsRain hn
  have e3 := @iLength tick; rw [ht] at e3
  refine Does.of_awp (X := cx 65) Try.func18 rfl (by kernel_rfl) rfl (by simp [cx]) [128, 132] rfl ?_
  conv => whnf
  repeat (first
    | (refine ⟨⟨by kernel_rfl, by kernel_rfl⟩, ?_⟩; conv => whnf)
    | (refine And.intro (by first | omega | (simp; done) | (simp; omega)) ?_; conv => whnf)
    | (refine Or.inl (And.intro (by omega) ?_); conv => whnf)
    | (refine Exists.intro _ (And.intro (e1) ?_); conv => whnf)
    | (refine Exists.intro _ (And.intro (e2 _) ?_); conv => whnf)
    | (refine Exists.intro _ (And.intro (e3) ?_); conv => whnf))
  refine ⟨Nat, fun i => i ≤ fs.length, fun i => [(2, .flt .f32 tick), (3, .loc 12 0), (6, .loc 24 0), (10, .osl 128), (11, .osl 132), (34, .sli .f32 fs t), (35, .int .i64 fs.length), (36, .int .i64 i)], fun i => [(12, .av [.flt .f32 a, .flt .f32 b, .flt .f32 c, .flt .f32 d, .flt .f32 (soS a b c d e fs tick i)]), (24, .av [.flt .f32 (canon .f32 0), .flt .f32 (canon .f32 0), .flt .f32 (canon .f32 0), .flt .f32 (canon .f32 0), .flt .f32 (canon .f32 0)]), (128, .tab .f32 (tabN (soOff a b c d e fs tick) i)), (132, .tab .f32 (tabN (soLet a b c d e fs tick) i))], fun i => fs.length - i, ⟨0, id, Nat.zero_le _, rfl, ⟨rfl, rfl, rfl, rfl, rfl, rfl, rfl, rfl, trivial⟩, ⟨rfl, rfl, rfl, rfl, trivial⟩⟩, fun i hi => ?_⟩
  conv => whnf
  (refine br_intro (fun h => ?_) (fun h => ?_) <;> (conv => whnf))
  · have h : i < fs.length := by simp at h; omega
    have eS := iStepSoil (hv i (by omega)) (rain_least hr h) ht (hv (i + 1) h) (ho i h) (hl i h)
    have eS : Does Try.prog 21 [.agg [.flt .f32 a, .flt .f32 b, .flt .f32 c, .flt .f32 d, .flt .f32 (soS a b c d e fs tick i)], .flt .f32 (fs.getD i 0), .flt .f32 tick] (.tup [.agg [.flt .f32 a, .flt .f32 b, .flt .f32 c, .flt .f32 d, .flt .f32 (soS a b c d e fs tick (i + 1))], .flt .f32 (soOff a b c d e fs tick i), .flt .f32 (soLet a b c d e fs tick i), .bool true]) := eS
    repeat (first
      | (refine ⟨⟨by kernel_rfl, by kernel_rfl⟩, ?_⟩; conv => whnf)
      | (refine And.intro (by first | omega | (simp; done) | (simp; omega)) ?_; conv => whnf)
      | (refine Or.inl (And.intro (by omega) ?_); conv => whnf)
      | (refine Exists.intro _ (And.intro (eS) ?_); conv => whnf))
    refine ⟨i + 1, ren [(128, 224), (132, 240)], ⟨h, by dsimp only; omega⟩, rfl, ⟨rfl, rfl, rfl, rfl, rfl, rfl, rfl, rfl, trivial⟩, ⟨rfl, rfl, rfl, rfl, trivial⟩⟩
  · have h : i = fs.length := by simp at h; omega
    subst h
    repeat (first
      | (refine ⟨⟨by kernel_rfl, by kernel_rfl⟩, ?_⟩; conv => whnf)
      | (refine And.intro (by first | omega | (simp; done) | (simp; omega)) ?_; conv => whnf)
      | (refine Or.inl (And.intro (by omega) ?_); conv => whnf))
    all_goals (try (conv => whnf))
    all_goals (repeat' (first | exact True.intro | (refine And.intro ?_ ?_ <;> (conv => whnf))))
    all_goals (first | rfl | (simp_all []; done) | (simp only [cond_true, cond_false, Bool.and_true, Bool.true_and, Bool.and_false, Bool.false_and]; rfl) | (simp_all []; omega))

theorem iSameSoil {a b c d e : Nat} (ha : a < 2 ^ 32) (hb : b < 2 ^ 32) (hc : c < 2 ^ 32) (hd : d < 2 ^ 32) (he : e < 2 ^ 32) : Does Try.prog 23 [.agg [.flt .f32 a, .flt .f32 b, .flt .f32 c, .flt .f32 d, .flt .f32 e], .agg [.flt .f32 a, .flt .f32 b, .flt .f32 c, .flt .f32 d, .flt .f32 e]] (.bool true) := by
  have hw : ∀ y ∈ [a, b, c, d, e], y < 2 ^ 32 := by simp; omega
  have e : ∀ t t', Does Try.prog 36 [.sli .f32 [a, b, c, d, e] t, .sli .f32 [a, b, c, d, e] t'] (.bool true) := fun t t' => by
    have := iSameNums (t := t) (t' := t') (by simp) hw hw
    rwa [sbL_self] at this
  refine Does.of_awp (X := cx 28) Try.func23 rfl (by kernel_rfl) rfl (by simp [cx]) [] rfl ?_
  conv => whnf
  repeat (first
    | (refine ⟨⟨by kernel_rfl, by kernel_rfl⟩, ?_⟩; conv => whnf)
    | (refine And.intro (by first | omega | (simp; done) | (simp; omega)) ?_; conv => whnf)
    | (refine Or.inl (And.intro (by omega) ?_); conv => whnf)
    | (refine Exists.intro _ (And.intro (e _ _) ?_); conv => whnf))
  all_goals (try (conv => whnf))
  all_goals (repeat' (first | exact True.intro | (refine And.intro ?_ ?_ <;> (conv => whnf))))
  all_goals (first | rfl | (simp_all []; done) | (simp only [cond_true, cond_false, Bool.and_true, Bool.true_and, Bool.and_false, Bool.false_and]; rfl) | (simp_all []; omega))
noncomputable def cuE (f h : Nat) : Nat := fop .sub .f32 f (fop .mul .f32 (canon .f32 1045220557) h)
noncomputable def cuQ (f h : Nat) : Nat := fop .quo .f32 (fop .mul .f32 (cuE f h) (cuE f h)) (fop .add .f32 f (fop .mul .f32 (canon .f32 1061997773) h))
noncomputable def cuR (f h : Nat) : Nat := bif fcmp .gtr .f32 (cuE f h) (canon .f32 0) then cuQ f h else canon .f32 0

theorem iCurve {f h : Nat} (hf : leastL [f, h] = true) (hq : fcmp .gtr .f32 (cuE f h) (canon .f32 0) = true → fin (cuQ f h) = true) : Does Try.prog 22 [.flt .f32 f, .flt .f32 h] (.tup [.flt .f32 (cuR f h), .bool true]) := by
  have e1 : ∀ t, Does Try.prog 32 [.sli .f32 [f, h] t] (.bool true) := fun t => hf ▸ iLeastL (by simp)
  refine Does.of_awp (X := cx 30) Try.func22 rfl (by kernel_rfl) rfl (by simp [cx]) [] rfl ?_
  conv => whnf
  repeat (first
    | (refine ⟨⟨by kernel_rfl, by kernel_rfl⟩, ?_⟩; conv => whnf)
    | (refine And.intro (by first | omega | (simp; done) | (simp; omega)) ?_; conv => whnf)
    | (refine Or.inl (And.intro (by omega) ?_); conv => whnf)
    | (refine Exists.intro _ (And.intro (e1 _) ?_); conv => whnf))
  (refine br_intro (fun g => ?_) (fun g => ?_) <;> (conv => whnf))
  · have g : fcmp .gtr .f32 (cuE f h) (canon .f32 0) = false := nott g
    unfold cuR
    rw [g]
    all_goals (try (conv => whnf))
    all_goals (repeat' (first | exact True.intro | (refine And.intro ?_ ?_ <;> (conv => whnf))))
    all_goals (first | rfl | (simp_all []; done) | (simp only [cond_true, cond_false, Bool.and_true, Bool.true_and, Bool.and_false, Bool.false_and]; rfl) | (simp_all []; omega))
  · have g : fcmp .gtr .f32 (cuE f h) (canon .f32 0) = true := notf g
    have e2 := @iNumber (cuQ f h); rw [hq g] at e2
    unfold cuR
    rw [g]
    repeat (first
      | (refine ⟨⟨by kernel_rfl, by kernel_rfl⟩, ?_⟩; conv => whnf)
      | (refine And.intro (by first | omega | (simp; done) | (simp; omega)) ?_; conv => whnf)
      | (refine Or.inl (And.intro (by omega) ?_); conv => whnf)
      | (refine Exists.intro _ (And.intro (e2) ?_); conv => whnf))
    all_goals (try (conv => whnf))
    all_goals (repeat' (first | exact True.intro | (refine And.intro ?_ ?_ <;> (conv => whnf))))
    all_goals (first | rfl | (simp_all []; done) | (simp only [cond_true, cond_false, Bool.and_true, Bool.true_and, Bool.and_false, Bool.false_and]; rfl) | (simp_all []; omega))

end Go.Proofs.Ytddedcedkpigkaa
