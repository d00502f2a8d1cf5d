/- What each function of this seat does (Le3). Printed from templates of this seat's own. -/
import Derived.Test.YtpelmabholoieaaLev
namespace Go.Proofs.Ytpelmabholoieaa
open Go.Ax Go.Bx
set_option maxRecDepth 8000
set_option linter.unusedSimpArgs false
set_option linter.unusedVariables false
/-! The walks. -/
theorem word64_pos {r : Nat} (h : r < FloatKind.f64.format.infRung) (c : Nat) (hc : isNaN .f64 (canon .f64 c) = false) (p : Int) (hp : pos .f64 (canon .f64 c) = p) :
    fcmp .geq .f64 (lgW r) (canon .f64 c) = decide (p ≤ r) ∧ fcmp .lss .f64 (lgW r) (canon .f64 c) = decide ((r : Int) < p) ∧ fcmp .gtr .f64 (lgW r) (canon .f64 c) = decide (p < r) ∧ fcmp .eql .f64 (lgW r) (canon .f64 c) = decide ((r : Int) = p) := by
  obtain ⟨_, _, _, w4, w5⟩ := lgW_facts h
  refine ⟨?_, ?_, ?_, ?_⟩
  · rw [cmp_geq w4 hc, hp, w5]
  · rw [cmp_lss w4 hc, hp, w5]
  · rw [cmp_gtr w4 hc, hp, w5]
  · rw [eql_num w4 hc, hp, w5]
theorem lg_ge15 {r : Nat} (h : r < FloatKind.f64.format.infRung) : fcmp .geq .f64 (lgW r) (canon .f64 4609434218613702656) = decide (R15 ≤ r) := by
  rw [(word64_pos h 4609434218613702656 (by decide +kernel) (R15 : Nat) (by decide +kernel)).1, decide_eq_decide]
  omega
theorem lg_lt075 {r : Nat} (h : r < FloatKind.f64.format.infRung) : fcmp .lss .f64 (lgW r) (canon .f64 4604930618986332160) = decide (r < R075) := by
  rw [(word64_pos h 4604930618986332160 (by decide +kernel) (R075 : Nat) (by decide +kernel)).2.1, decide_eq_decide]
  omega
theorem lg_zero {r : Nat} (h : LgR r) : fcmp .lss .f64 (lgW r) (canon .f64 0) = false ∧ fcmp .eql .f64 (lgW r) (canon .f64 0) = false ∧ fcmp .gtr .f64 (lgW r) (canon .f64 9218868437227405311) = false ∧ fcmp .neq .f64 (lgW r) (lgW r) = false := by
  have hi : r < FloatKind.f64.format.infRung := by rw [inf64]; have := h.2; omega
  have h1 := h.1
  have h2 := h.2
  obtain ⟨a1, a2, a3, a4⟩ := word64_pos hi 0 (by decide +kernel) 0 (by decide +kernel)
  obtain ⟨b1, b2, b3, b4⟩ := word64_pos hi 9218868437227405311 (by decide +kernel) 9218868437227405311 (by decide +kernel)
  refine ⟨?_, ?_, ?_, ?_⟩
  · rw [a2]; exact decide_eq_false (by omega)
  · rw [a4]; exact decide_eq_false (by omega)
  · rw [b3]; exact decide_eq_false (by omega)
  · rw [neq_self]; exact (lgW_facts hi).2.2.2.1

theorem xIsInf1 {x : Nat} : Does Try.prog 61 [.flt .f64 x, .int .i64 1] (.bool (fcmp .gtr .f64 x (canon .f64 9218868437227405311))) := by
  refine Does.of_awp (X := cx 15) Try.func61 rfl (by kernel_rfl) rfl (by simp [cx]) [] rfl ?_
  conv => whnf
  repeat (first
    | (refine ⟨⟨by kernel_rfl, by kernel_rfl⟩, ?_⟩; conv => whnf)
    | (refine And.intro (by first | omega | (simp; done) | (simp; omega)) ?_; conv => whnf)
    | (refine Or.inl (And.intro (by omega) ?_); conv => whnf))
  all_goals (try (conv => whnf))
  all_goals (repeat' (first | exact True.intro | (refine And.intro ?_ ?_ <;> (conv => whnf))))
  all_goals (first | rfl | (simp_all []; done) | (simp only [cond_true, cond_false, Bool.and_true, Bool.true_and, Bool.and_false, Bool.false_and]; rfl) | (simp_all []; omega))

set_option maxHeartbeats 1000000 in
theorem sLogWide {r : Nat} (h : LgR r) : Does Try.prog 55 [.flt .f64 (lgW r)] (.flt .f64 (lgL r)) := by
  obtain ⟨z1, z2, z3, z4⟩ := lg_zero h
  obtain ⟨n1, n2, n3, n4⟩ := lg_up h (Nat.le_refl _)
  obtain ⟨m1, m2, m3, m4, m5⟩ := lg_dn h (Nat.le_refl _)
  have hh := h.2
  refine Does.of_awp (X := cx 64) Try.func55 rfl (by kernel_rfl) rfl (by simp [cx]) [] rfl ?_
  conv => whnf
  repeat (first
    | (refine ⟨⟨by kernel_rfl, by kernel_rfl⟩, ?_⟩; conv => whnf)
    | (refine And.intro (by first | omega | (simp; done) | (simp; omega)) ?_; conv => whnf)
    | (refine Or.inl (And.intro (by omega) ?_); conv => whnf))
  (refine br_intro (fun g1 => ?_) (fun g1 => ?_) <;> (conv => whnf))
  · exfalso; rw [z4] at g1; cases g1
  repeat (first
    | (refine ⟨⟨by kernel_rfl, by kernel_rfl⟩, ?_⟩; conv => whnf)
    | (refine And.intro (by first | omega | (simp; done) | (simp; omega)) ?_; conv => whnf)
    | (refine Or.inl (And.intro (by omega) ?_); conv => whnf))
  (refine br_intro (fun g2 => ?_) (fun g2 => ?_) <;> (conv => whnf))
  · exfalso; rw [z1] at g2; cases g2
  repeat (first
    | (refine ⟨⟨by kernel_rfl, by kernel_rfl⟩, ?_⟩; conv => whnf)
    | (refine And.intro (by first | omega | (simp; done) | (simp; omega)) ?_; conv => whnf)
    | (refine Or.inl (And.intro (by omega) ?_); conv => whnf))
  (refine br_intro (fun g3 => ?_) (fun g3 => ?_) <;> (conv => whnf))
  · exfalso; rw [z2] at g3; cases g3
  repeat (first
    | (refine ⟨⟨by kernel_rfl, by kernel_rfl⟩, ?_⟩; conv => whnf)
    | (refine And.intro (by first | omega | (simp; done) | (simp; omega)) ?_; conv => whnf)
    | (refine Or.inl (And.intro (by omega) ?_); conv => whnf)
    | (refine Exists.intro _ (And.intro (xIsInf1) ?_); conv => whnf))
  (refine br_intro (fun g4 => ?_) (fun g4 => ?_) <;> (conv => whnf))
  · exfalso; rw [z3] at g4; cases g4
  clear g1 g2 g3 g4 z1 z2 z3 z4
  repeat (first
    | (refine ⟨⟨by kernel_rfl, by kernel_rfl⟩, ?_⟩; conv => whnf)
    | (refine And.intro (by first | omega | (simp; done) | (simp; omega)) ?_; conv => whnf)
    | (refine Or.inl (And.intro (by omega) ?_); conv => whnf))
  refine ⟨Nat, fun j => j ≤ lgJ r, fun j => [(0, .flt .f64 (lgW (r - j * BB))), (3, .int .i64 j)], fun _ => [], fun j => lgJ r - j, ⟨0, id, Nat.zero_le _, rfl, ⟨congrArg (fun n => AV.flt .f64 (lgW n)) (show r = r - 0 * BB by omega), rfl, trivial⟩, trivial⟩, fun j hj => ?_⟩
  dsimp only at hj
  obtain ⟨u1, u2, u3, u4⟩ := lg_up h hj
  have hi : r - j * BB < FloatKind.f64.format.infRung := by rw [inf64]; omega
  have hg := lg_ge15 hi
  conv => whnf
  (refine br_intro (fun g => ?_) (fun g => ?_) <;> (conv => whnf))
  · have g : fcmp .geq .f64 (lgW (r - j * BB)) (canon .f64 4609434218613702656) = true := g
    have hlt : j < lgJ r := by rw [hg] at g; exact u2.1 (of_decide_eq_true g)
    have e := lgW_half hi u4
    have e2 : r - j * BB - BB = r - (j + 1) * BB := by rw [Nat.add_mul, Nat.one_mul]; omega
    rw [e2] at e
    repeat (first
      | (refine ⟨⟨by kernel_rfl, by kernel_rfl⟩, ?_⟩; conv => whnf)
      | (refine And.intro (by first | omega | (simp; done) | (simp; omega)) ?_; conv => whnf)
      | (refine Or.inl (And.intro (by omega) ?_); conv => whnf))
    refine ⟨j + 1, id, ⟨hlt, by dsimp only; omega⟩, rfl, ⟨congrArg (AV.flt .f64) e, rfl, trivial⟩, trivial⟩
  have g : fcmp .geq .f64 (lgW (r - j * BB)) (canon .f64 4609434218613702656) = false := g
  have hJ : j = lgJ r := by
    rw [hg] at g
    have := of_decide_eq_false g
    have : ¬ j < lgJ r := fun h => this (u2.2 h)
    omega
  subst hJ
  clear g hg hi u1 u2 u3 u4
  repeat (first
    | (refine ⟨⟨by kernel_rfl, by kernel_rfl⟩, ?_⟩; conv => whnf)
    | (refine And.intro (by first | omega | (simp; done) | (simp; omega)) ?_; conv => whnf)
    | (refine Or.inl (And.intro (by omega) ?_); conv => whnf))
  refine ⟨Nat, fun i => i ≤ lgI r, fun i => [(0, .flt .f64 (lgW (r - lgJ r * BB + i * BB))), (3, .int .i64 ((lgJ r : Int) - i))], fun _ => [], fun i => lgI r - i, ⟨0, id, Nat.zero_le _, rfl, ⟨congrArg (fun n => AV.flt .f64 (lgW n)) (show r - lgJ r * BB = r - lgJ r * BB + 0 * BB by omega), congrArg (AV.int .i64) (show (lgJ r : Int) = (lgJ r : Int) - ((0 : Nat) : Int) by omega), trivial⟩, trivial⟩, fun i hi => ?_⟩
  dsimp only at hi
  obtain ⟨u1, u2, u3, u4, u5⟩ := lg_dn h hi
  have hR : R15 < FloatKind.f64.format.infRung := by rw [inf64]; decide
  have hf : r - lgJ r * BB + i * BB < FloatKind.f64.format.infRung := by omega
  have hg := lg_lt075 hf
  conv => whnf
  (refine br_intro (fun g => ?_) (fun g => ?_) <;> (conv => whnf))
  · have g : fcmp .lss .f64 (lgW (r - lgJ r * BB + i * BB)) (canon .f64 4604930618986332160) = true := g
    have hlt : i < lgI r := by rw [hg] at g; exact u1.1 (of_decide_eq_true g)
    have hn := (lg_dn h (i := i + 1) hlt).2.2.1
    have e2 : r - lgJ r * BB + i * BB + BB = r - lgJ r * BB + (i + 1) * BB := by rw [Nat.add_mul, Nat.one_mul]; omega
    have e := lgW_twice (r := r - lgJ r * BB + i * BB) (by omega) (by omega)
    rw [e2] at e
    have e3 : (lgJ r : Int) - (i : Int) - 1 = (lgJ r : Int) - ((i + 1 : Nat) : Int) := by omega
    repeat (first
      | (refine ⟨⟨by kernel_rfl, by kernel_rfl⟩, ?_⟩; conv => whnf)
      | (refine And.intro (by first | omega | (simp; done) | (simp; omega)) ?_; conv => whnf)
      | (refine Or.inl (And.intro (by omega) ?_); conv => whnf))
    refine ⟨i + 1, id, ⟨hlt, by dsimp only; omega⟩, rfl, ⟨congrArg (AV.flt .f64) e, congrArg (AV.int .i64) e3, trivial⟩, trivial⟩
  have g : fcmp .lss .f64 (lgW (r - lgJ r * BB + i * BB)) (canon .f64 4604930618986332160) = false := g
  have hI : i = lgI r := by
    rw [hg] at g
    have := of_decide_eq_false g
    have : ¬ i < lgI r := fun h => this (u1.2 h)
    omega
  subst hI
  clear g hg hf u1 u2 u3 u4 u5
  repeat (first
    | (refine ⟨⟨by kernel_rfl, by kernel_rfl⟩, ?_⟩; conv => whnf)
    | (refine And.intro (by first | omega | (simp; done) | (simp; omega)) ?_; conv => whnf)
    | (refine Or.inl (And.intro (by omega) ?_); conv => whnf))
  refine ⟨Nat, fun j => j ≤ 13, fun j => [(3, .int .i64 ((lgJ r : Int) - lgI r)), (4, .flt .f64 (lgS (lgY r))), (5, .flt .f64 (fop .mul .f64 (lgS (lgY r)) (lgS (lgY r)))), (6, .flt .f64 (lgQ (fop .mul .f64 (lgS (lgY r)) (lgS (lgY r))) j)), (7, .int .i64 (25 - 2 * (j : Int)))], fun _ => [], fun j => 13 - j, ⟨0, id, Nat.zero_le _, rfl, ⟨rfl, rfl, rfl, rfl, rfl, trivial⟩, trivial⟩, fun j hj => ?_⟩
  dsimp only at hj
  conv => whnf
  (refine br_intro (fun h1 => ?_) (fun h1 => ?_) <;> (conv => whnf))
  · have h1 : j < 13 := by simp at h1; omega
    have e : (25 : Int) - 2 * (j : Int) - 2 = 25 - 2 * ((j + 1 : Nat) : Int) := by omega
    repeat (first
      | (refine ⟨⟨by kernel_rfl, by kernel_rfl⟩, ?_⟩; conv => whnf)
      | (refine And.intro (by first | omega | (simp; done) | (simp; omega)) ?_; conv => whnf)
      | (refine Or.inl (And.intro (by omega) ?_); conv => whnf))
    refine ⟨j + 1, id, ⟨h1, by dsimp only; omega⟩, rfl, ⟨rfl, rfl, rfl, rfl, congrArg (AV.int .i64) e, trivial⟩, trivial⟩
  · have h1 : j = 13 := by simp at h1; omega
    subst h1
    repeat (first
      | (refine ⟨⟨by kernel_rfl, by kernel_rfl⟩, ?_⟩; conv => whnf)
      | (refine And.intro (by first | omega | (simp; done) | (simp; omega)) ?_; conv => whnf)
      | (refine Or.inl (And.intro (by omega) ?_); conv => whnf))
    exact rfl

set_option maxHeartbeats 1000000 in
theorem iLogWide {r : Nat} (h : LgR r) : Does Try.prog 63 [.flt .f64 (lgW r)] (.flt .f64 (lgL r)) := by
  obtain ⟨n1, n2, n3, n4⟩ := lg_up h (Nat.le_refl _)
  obtain ⟨m1, m2, m3, m4, m5⟩ := lg_dn h (Nat.le_refl _)
  have hh := h.2
  refine Does.of_awp (X := cx 46) Try.func63 rfl (by kernel_rfl) rfl (by simp [cx]) [] rfl ?_
  conv => whnf
  repeat (first
    | (refine ⟨⟨by kernel_rfl, by kernel_rfl⟩, ?_⟩; conv => whnf)
    | (refine And.intro (by first | omega | (simp; done) | (simp; omega)) ?_; conv => whnf)
    | (refine Or.inl (And.intro (by omega) ?_); conv => whnf))
  refine ⟨Nat, fun j => j ≤ lgJ r, fun j => [(0, .flt .f64 (lgW (r - j * BB))), (3, .flt .f64 (foi .f64 j))], fun _ => [], fun j => lgJ r - j, ⟨0, id, Nat.zero_le _, rfl, ⟨congrArg (fun n => AV.flt .f64 (lgW n)) (show r = r - 0 * BB by omega), congrArg (AV.flt .f64) foi_zero.symm, trivial⟩, trivial⟩, fun j hj => ?_⟩
  dsimp only at hj
  obtain ⟨u1, u2, u3, u4⟩ := lg_up h hj
  have hi : r - j * BB < FloatKind.f64.format.infRung := by rw [inf64]; omega
  have hg := lg_ge15 hi
  conv => whnf
  (refine br_intro (fun g => ?_) (fun g => ?_) <;> (conv => whnf))
  · have g : fcmp .geq .f64 (lgW (r - j * BB)) (canon .f64 4609434218613702656) = true := g
    have hlt : j < lgJ r := by rw [hg] at g; exact u2.1 (of_decide_eq_true g)
    have e := lgW_half hi u4
    have e2 : r - j * BB - BB = r - (j + 1) * BB := by rw [Nat.add_mul, Nat.one_mul]; omega
    rw [e2] at e
    have e4 : fop .add .f64 (foi .f64 (j : Nat)) (canon .f64 4607182418800017408) = foi .f64 ((j + 1 : Nat) : Int) := foi_up (by omega)
    repeat (first
      | (refine ⟨⟨by kernel_rfl, by kernel_rfl⟩, ?_⟩; conv => whnf)
      | (refine And.intro (by first | omega | (simp; done) | (simp; omega)) ?_; conv => whnf)
      | (refine Or.inl (And.intro (by omega) ?_); conv => whnf))
    refine ⟨j + 1, id, ⟨hlt, by dsimp only; omega⟩, rfl, ⟨congrArg (AV.flt .f64) e, congrArg (AV.flt .f64) e4, trivial⟩, trivial⟩
  have g : fcmp .geq .f64 (lgW (r - j * BB)) (canon .f64 4609434218613702656) = false := g
  have hJ : j = lgJ r := by
    rw [hg] at g
    have := of_decide_eq_false g
    have : ¬ j < lgJ r := fun h => this (u2.2 h)
    omega
  subst hJ
  clear g hg hi u1 u2 u3 u4
  repeat (first
    | (refine ⟨⟨by kernel_rfl, by kernel_rfl⟩, ?_⟩; conv => whnf)
    | (refine And.intro (by first | omega | (simp; done) | (simp; omega)) ?_; conv => whnf)
    | (refine Or.inl (And.intro (by omega) ?_); conv => whnf))
  refine ⟨Nat, fun i => i ≤ lgI r, fun i => [(0, .flt .f64 (lgW (r - lgJ r * BB + i * BB))), (3, .flt .f64 (foi .f64 ((lgJ r : Int) - i)))], fun _ => [], fun i => lgI r - i, ⟨0, id, Nat.zero_le _, rfl, ⟨congrArg (fun n => AV.flt .f64 (lgW n)) (show r - lgJ r * BB = r - lgJ r * BB + 0 * BB by omega), congrArg (fun n => AV.flt .f64 (foi .f64 n)) (show (lgJ r : Int) = (lgJ r : Int) - ((0 : Nat) : Int) by omega), trivial⟩, trivial⟩, fun i hi => ?_⟩
  dsimp only at hi
  obtain ⟨u1, u2, u3, u4, u5⟩ := lg_dn h hi
  have hR : R15 < FloatKind.f64.format.infRung := by rw [inf64]; decide
  have hf : r - lgJ r * BB + i * BB < FloatKind.f64.format.infRung := by omega
  have hg := lg_lt075 hf
  conv => whnf
  (refine br_intro (fun g => ?_) (fun g => ?_) <;> (conv => whnf))
  · have g : fcmp .lss .f64 (lgW (r - lgJ r * BB + i * BB)) (canon .f64 4604930618986332160) = true := g
    have hlt : i < lgI r := by rw [hg] at g; exact u1.1 (of_decide_eq_true g)
    have hn := (lg_dn h (i := i + 1) hlt).2.2.1
    have e2 : r - lgJ r * BB + i * BB + BB = r - lgJ r * BB + (i + 1) * BB := by rw [Nat.add_mul, Nat.one_mul]; omega
    have e := lgW_twice (r := r - lgJ r * BB + i * BB) (by omega) (by omega)
    rw [e2] at e
    have hJ0 : lgJ r = 0 := m4 (by omega)
    have e4 : fop .sub .f64 (foi .f64 ((lgJ r : Int) - (i : Int))) (canon .f64 4607182418800017408) = foi .f64 ((lgJ r : Int) - ((i + 1 : Nat) : Int)) := by
      rw [hJ0, show ((0 : Nat) : Int) - (i : Int) = -(i : Int) by omega, foi_dn (by omega)]
      congr 1
      omega
    repeat (first
      | (refine ⟨⟨by kernel_rfl, by kernel_rfl⟩, ?_⟩; conv => whnf)
      | (refine And.intro (by first | omega | (simp; done) | (simp; omega)) ?_; conv => whnf)
      | (refine Or.inl (And.intro (by omega) ?_); conv => whnf))
    refine ⟨i + 1, id, ⟨hlt, by dsimp only; omega⟩, rfl, ⟨congrArg (AV.flt .f64) e, congrArg (AV.flt .f64) e4, trivial⟩, trivial⟩
  have g : fcmp .lss .f64 (lgW (r - lgJ r * BB + i * BB)) (canon .f64 4604930618986332160) = false := g
  have hI : i = lgI r := by
    rw [hg] at g
    have := of_decide_eq_false g
    have : ¬ i < lgI r := fun h => this (u1.2 h)
    omega
  subst hI
  clear g hg hf u1 u2 u3 u4 u5
  repeat (first
    | (refine ⟨⟨by kernel_rfl, by kernel_rfl⟩, ?_⟩; conv => whnf)
    | (refine And.intro (by first | omega | (simp; done) | (simp; omega)) ?_; conv => whnf)
    | (refine Or.inl (And.intro (by omega) ?_); conv => whnf))
  refine ⟨Nat, fun j => j ≤ 13, fun j => [(3, .flt .f64 (foi .f64 ((lgJ r : Int) - lgI r))), (4, .flt .f64 (lgS (lgY r))), (5, .flt .f64 (fop .mul .f64 (lgS (lgY r)) (lgS (lgY r)))), (6, .flt .f64 (lgQ (fop .mul .f64 (lgS (lgY r)) (lgS (lgY r))) j)), (7, .int .i64 (25 - 2 * (j : Int)))], fun _ => [], fun j => 13 - j, ⟨0, id, Nat.zero_le _, rfl, ⟨rfl, rfl, rfl, rfl, rfl, trivial⟩, trivial⟩, fun j hj => ?_⟩
  dsimp only at hj
  conv => whnf
  (refine br_intro (fun h1 => ?_) (fun h1 => ?_) <;> (conv => whnf))
  · have h1 : j < 13 := by simp at h1; omega
    have e : (25 : Int) - 2 * (j : Int) - 2 = 25 - 2 * ((j + 1 : Nat) : Int) := by omega
    repeat (first
      | (refine ⟨⟨by kernel_rfl, by kernel_rfl⟩, ?_⟩; conv => whnf)
      | (refine And.intro (by first | omega | (simp; done) | (simp; omega)) ?_; conv => whnf)
      | (refine Or.inl (And.intro (by omega) ?_); conv => whnf))
    refine ⟨j + 1, id, ⟨h1, by dsimp only; omega⟩, rfl, ⟨rfl, rfl, rfl, rfl, congrArg (AV.int .i64) e, trivial⟩, trivial⟩
  · have h1 : j = 13 := by simp at h1; omega
    subst h1
    repeat (first
      | (refine ⟨⟨by kernel_rfl, by kernel_rfl⟩, ?_⟩; conv => whnf)
      | (refine And.intro (by first | omega | (simp; done) | (simp; omega)) ?_; conv => whnf)
      | (refine Or.inl (And.intro (by omega) ?_); conv => whnf))
    exact rfl

end Go.Proofs.Ytpelmabholoieaa
