/- What each function of this seat does (Exp). Printed from templates of this seat's own. -/
import Derived.Test.YtddedcedkpigkaaRsn
import Derived.Test.YtddedcedkpigkaaBxJ
namespace Go.Proofs.Ytddedcedkpigkaa
open Go.Ax Go.Bx
set_option maxRecDepth 8000
set_option linter.unusedSimpArgs false
set_option linter.unusedVariables false
theorem xor_top {n r : Nat} (h : r < 2 ^ n) : r ^^^ 2 ^ n = 2 ^ n + r := by
  apply Nat.eq_of_testBit_eq
  intro i
  rw [Nat.testBit_xor, Nat.testBit_two_pow]
  rcases Nat.lt_trichotomy i n with hi | hi | hi
  · rw [Nat.testBit_two_pow_add_gt hi, decide_eq_false (by omega), Bool.xor_false]
  · subst hi
    rw [Nat.testBit_two_pow_add_eq, decide_eq_true rfl, Bool.xor_true]
  · have h1 : r < 2 ^ i := Nat.lt_trans h (Nat.pow_lt_pow_right (by decide) hi)
    have h2 : 2 ^ n + r < 2 ^ i := by
      have : 2 ^ (n + 1) ≤ 2 ^ i := Nat.pow_le_pow_right (by decide) hi
      rw [Nat.pow_succ] at this
      omega
    rw [Nat.testBit_lt_two_pow h1, Nat.testBit_lt_two_pow h2, decide_eq_false (by omega)]; rfl
theorem neg_word {r : Nat} (s : Bool) (h : r < Ieee.single.signWeight) : Op.negFloat .f32 (Ieee.single.word s r) = Ieee.single.word (!s) r := by
  have e : Op.negFloat .f32 (Ieee.single.word s r) = Ieee.single.word s r ^^^ 2 ^ 31 := rfl
  have hs : Ieee.single.signWeight = 2 ^ 31 := rfl
  rw [e]
  rw [hs] at h
  cases s
  · show r ^^^ 2 ^ 31 = 2 ^ 31 + r
    exact xor_top h
  · show (2 ^ 31 + r) ^^^ 2 ^ 31 = r
    rw [← xor_top h, Nat.xor_assoc, Nat.xor_self, Nat.xor_zero]
theorem pos_word' {s : Bool} {r : Nat} (h : r ≤ FloatKind.f32.format.infRung) : pos .f32 (FloatKind.f32.format.word s r) = sg s r := by
  obtain ⟨f1, f2⟩ := word_facts (k := .f32) (s := s) (r := r) h
  unfold pos; rw [f1, f2]
theorem nn_word {s : Bool} {r : Nat} (h : r ≤ FloatKind.f32.format.infRung) : isNaN .f32 (FloatKind.f32.format.word s r) = false := nan_false (by rw [(word_facts (k := .f32) h).2]; exact h)
theorem word_lt {s : Bool} {r : Nat} (h : r ≤ FloatKind.f32.format.infRung) : FloatKind.f32.format.word s r < 2 ^ 32 := by
  have := inf_sw .f32
  have hs : FloatKind.f32.format.signWeight = 2 ^ 31 := rfl
  unfold Ieee.Format.word
  split <;> omega
/-- A word of a number that is not above nought. -/
def LeZ (x : Nat) : Prop := isNaN .f32 x = false ∧ x < 2 ^ 32 ∧ pos .f32 x ≤ 0
def GeZ (x : Nat) : Prop := isNaN .f32 x = false ∧ x < 2 ^ 32 ∧ 0 ≤ pos .f32 x
theorem sg_zero (s : Bool) : sg s 0 = 0 := by cases s <;> rfl
theorem ge_cases {x : Nat} (h : GeZ x) : negOf FloatKind.f32.format x = false ∨ rungOf FloatKind.f32.format x = 0 := by
  have := h.2.2
  unfold pos sg at this
  cases hs : negOf FloatKind.f32.format x
  · exact .inl rfl
  · rw [hs, if_pos rfl] at this; right; omega
theorem geZ_word {s : Bool} {r : Nat} (h : r ≤ FloatKind.f32.format.infRung) (h0 : s = true → r = 0) : GeZ (FloatKind.f32.format.word s r) := by
  refine ⟨nn_word h, word_lt h, ?_⟩
  rw [pos_word' h]
  cases s
  · simp [sg]
  · rw [h0 rfl]; exact Int.le_refl _
theorem val_zero {k : FloatKind} {x : Nat} (h : rungOf k.format x = 0) : valR k x = 0 := by unfold valR; rw [h, rungV_zero (binade_pos _)]
/-- A product of finite numbers that are not below nought. -/
theorem mul_ge {x y : Nat} (hx : GeZ x) (hy : GeZ y) (fx : Ax.Fin .f32 x) (fy : Ax.Fin .f32 y) : GeZ (fop .mul .f32 x y) := by
  obtain ⟨r, r1, r2, r3, r4⟩ := mul_sides fx fy
  rw [r1]
  refine geZ_word r2 fun hs => Nat.le_zero.1 (r3 0 ?_)
  rcases ge_cases hx with h1 | h1 <;> rcases ge_cases hy with h2 | h2
  · rw [h1, h2] at hs; cases hs
  · rw [val_zero h2, Nat.mul_zero]; exact Nat.zero_le _
  · rw [val_zero h1, Nat.zero_mul]; exact Nat.zero_le _
  · rw [val_zero h1, Nat.zero_mul]; exact Nat.zero_le _
theorem neg_ge {x : Nat} (h : GeZ x) : LeZ (fneg .f32 x) := by
  have hle : rungOf FloatKind.f32.format x ≤ FloatKind.f32.format.infRung := by
    rcases fin_of_nn h.1 with h' | h'
    · exact Nat.le_of_lt h'
    · exact Nat.le_of_eq h'
  have hw : Ieee.single.word (negOf Ieee.single x) (rungOf Ieee.single x) = x := word_of Ieee.single (x := x) h.2.1
  have e : fneg .f32 x = FloatKind.f32.format.word (!(negOf Ieee.single x)) (rungOf Ieee.single x) := by
    unfold fneg
    rw [if_neg (by rw [h.1]; simp)]
    have := neg_word (negOf Ieee.single x) (r := rungOf Ieee.single x) (by have := inf_sw .f32; have h2 : rungOf Ieee.single x ≤ Ieee.single.infRung := hle; exact Nat.lt_of_le_of_lt h2 this)
    rw [hw] at this
    exact this
  rw [e]
  refine ⟨nn_word hle, word_lt hle, ?_⟩
  have hp := h.2.2
  show pos .f32 (FloatKind.f32.format.word (!negOf Ieee.single x) (rungOf FloatKind.f32.format x)) ≤ 0
  rw [pos_word' hle, sg_not]
  have : pos .f32 x = sg (negOf Ieee.single x) (rungOf FloatKind.f32.format x) := rfl
  omega
/-! The exponential of a number that is not above nought. -/
noncomputable def one64 : Nat := canon .f64 4607182418800017408
noncomputable def one32 : Nat := canon .f32 1065353216
theorem one64_word : one64 = FloatKind.f64.format.word false (oneR .f64) := by unfold one64; decide +kernel
theorem one32_word : one32 = FloatKind.f32.format.word false (oneR .f32) := by unfold one32; decide +kernel
noncomputable def exP (t : Nat) : Nat → Nat
  | 0 => one64
  | j + 1 => fop .add .f64 one64 (fop .quo .f64 (fop .mul .f64 t (exP t j)) (foi .f64 (12 - (j : Int))))
noncomputable def exQ (p : Nat) : Nat → Nat
  | 0 => p
  | j + 1 => fop .mul .f64 (exQ p j) (exQ p j)
noncomputable def exT (x : Nat) : Nat := fop .quo .f64 (fwiden x) (canon .f64 4643211215818981376)
noncomputable def exW (x : Nat) : Nat := exQ (exP (exT x) 12) 8
noncomputable def exV (x : Nat) : Nat := bif fcmp .lss .f32 x (canon .f32 3276275712) then canon .f64 0 else exW x
noncomputable def exR (x : Nat) : Nat := fnarrow (exV x)
theorem foi_facts {k : Int} (h1 : 1 ≤ k) (h2 : k ≤ 12) : Ax.Fin .f64 (foi .f64 k) ∧ negOf FloatKind.f64.format (foi .f64 k) = false ∧ 2 ^ zOf .f64 ≤ valR .f64 (foi .f64 k) := by
  rw [foi_eq]
  have : k = 1 ∨ k = 2 ∨ k = 3 ∨ k = 4 ∨ k = 5 ∨ k = 6 ∨ k = 7 ∨ k = 8 ∨ k = 9 ∨ k = 10 ∨ k = 11 ∨ k = 12 := by omega
  unfold Ax.Fin
  rcases this with rfl | rfl | rfl | rfl | rfl | rfl | rfl | rfl | rfl | rfl | rfl | rfl <;> decide +kernel
theorem exP_unit {t : Nat} (ht : NZ .f64 t) : ∀ j, j ≤ 12 → Unit .f64 false (exP t j)
  | 0, _ => ⟨_, one64_word, Nat.le_refl _⟩
  | j + 1, hj => by
    have ih := exP_unit ht j (by omega)
    obtain ⟨c1, c2, c3⟩ := foi_facts (k := 12 - (j : Int)) (by omega) (by omega)
    have h1 := mul_nz ht ih
    rw [exP]
    exact one_add_nz one64_word (quo_nz h1.1 h1.2.1 c1 c2 (Nat.le_trans h1.2.2 c3) (Nat.lt_of_lt_of_le (Nat.two_pow_pos _) c3))
theorem exQ_unit {p : Nat} (hp : Unit .f64 false p) : ∀ j, Unit .f64 false (exQ p j)
  | 0 => hp
  | j + 1 => by
    have ih := exQ_unit hp j
    exact mul_unit ih ih
theorem le200 {x : Nat} (h : LeZ x) (hl : fcmp .lss .f32 x (canon .f32 3276275712) = false) : Ax.Fin .f32 x ∧ valR .f32 x ≤ 200 * 2 ^ 149 := by
  have hc : isNaN .f32 (canon .f32 3276275712) = false := by decide +kernel
  rw [cmp_lss h.1 hc] at hl
  have hl := of_decide_eq_false hl
  have hc2 : pos .f32 (canon .f32 3276275712) = -1128792064 := by decide +kernel
  have h0 := h.2.2
  rw [hc2] at hl
  have hr : rungOf FloatKind.f32.format x ≤ 1128792064 := by
    unfold pos sg at hl h0
    cases hs : negOf FloatKind.f32.format x
    · rw [hs] at h0; simp only [Bool.false_eq_true, if_false] at h0; omega
    · rw [hs] at hl; simp only [if_true] at hl; omega
  have hi : FloatKind.f32.format.infRung = 2139095040 := by decide +kernel
  refine ⟨by unfold Ax.Fin; omega, ?_⟩
  unfold valR
  have : rungV FloatKind.f32.format.binade 1128792064 = 200 * 2 ^ 149 := by decide +kernel
  rw [← this]
  exact (rungV_le_iff (binade_pos _)).2 hr
theorem sv_neg {x : Nat} (h : LeZ x) : sv .f32 x = -(valR .f32 x : Int) := by
  have h0 := h.2.2
  unfold sv sg
  unfold pos sg at h0
  cases hs : negOf FloatKind.f32.format x
  · rw [hs] at h0
    simp only [Bool.false_eq_true, if_false] at h0 ⊢
    rw [val_zero (by omega)]; rfl
  · rfl
theorem exW_unit {x : Nat} (h : LeZ x) (hl : fcmp .lss .f32 x (canon .f32 3276275712) = false) : Unit .f64 false (exW x) := by
  obtain ⟨h1, h2⟩ := le200 h hl
  obtain ⟨w1, w2, w3⟩ := widen_val h1
  have c1 : Ax.Fin .f64 (canon .f64 4643211215818981376) := by unfold Ax.Fin; decide +kernel
  have c2 : negOf FloatKind.f64.format (canon .f64 4643211215818981376) = false := by decide +kernel
  have c3 : valR .f64 (canon .f64 4643211215818981376) = 256 * 2 ^ zOf .f64 := by decide +kernel
  have hs : sv .f64 (fwiden x) = -(valR .f64 (fwiden x) : Int) := by
    rw [widen_sv h1, sv_neg h, w3, Int.neg_mul, Int.natCast_mul]
  have hv : valR .f64 (fwiden x) ≤ valR .f64 (canon .f64 4643211215818981376) := by
    have hz : zOf .f64 = 149 + gap := by decide +kernel
    rw [w3, c3, hz, Nat.pow_add, ← Nat.mul_assoc]
    generalize 2 ^ gap = G
    exact Nat.mul_le_mul_right _ (Nat.le_trans h2 (Nat.mul_le_mul_right _ (by decide)))
  have ht : NZ .f64 (exT x) := quo_nz w1 hs c1 c2 hv (by rw [c3]; exact Nat.mul_pos (by decide) (Nat.two_pow_pos _))
  exact exQ_unit (exP_unit ht 12 (Nat.le_refl _)) 8
theorem exV_unit {x : Nat} (h : LeZ x) : Unit .f64 false (exV x) := by
  unfold exV
  cases hl : fcmp .lss .f32 x (canon .f32 3276275712) with
  | true => rw [cond_true]; exact ⟨0, by decide +kernel, Nat.zero_le _⟩
  | false => exact exW_unit h hl
theorem exR_unit {x : Nat} (h : LeZ x) : Unit .f32 false (exR x) := (narrow_unit (exV_unit h)).2
theorem leZ_gt {x : Nat} (h : LeZ x) : fcmp .gtr .f32 x (canon .f32 1128792064) = false := by
  have hc : isNaN .f32 (canon .f32 1128792064) = false := by decide +kernel
  have hc2 : pos .f32 (canon .f32 1128792064) = 1128792064 := by decide +kernel
  rw [cmp_gtr h.1 hc, hc2]
  exact decide_eq_false (by have := h.2.2; omega)
theorem leZ_inf {x : Nat} (h : LeZ x) (hi : rungOf FloatKind.f32.format x = FloatKind.f32.format.infRung) : fwiden x = Ieee.double.word true Ieee.double.infRung ∧ pos .f32 x = -2139095040 := by
  have h0 := h.2.2
  have hI : FloatKind.f32.format.infRung = 2139095040 := by decide +kernel
  have hs : negOf FloatKind.f32.format x = true := by
    cases hs : negOf FloatKind.f32.format x
    · unfold pos sg at h0; rw [hs] at h0; simp only [Bool.false_eq_true, if_false] at h0; omega
    · rfl
  have hs' : negOf Ieee.single x = true := hs
  refine ⟨by rw [fwiden_inf hi, hs'], ?_⟩
  unfold pos sg
  rw [hs, hi, hI]; rfl
theorem wide_gt {x : Nat} (h : LeZ x) : fcmp .gtr .f64 (fwiden x) (canon .f64 4641240890982006784) = false := by
  have hn : isNaN .f64 (fwiden x) = false := by rw [isNaN_widen]; exact h.1
  have hc : isNaN .f64 (canon .f64 4641240890982006784) = false := by decide +kernel
  rw [cmp_gtr hn hc]
  refine decide_eq_false fun hlt => ?_
  rcases fin_of_nn h.1 with hf | hi
  · have e : canon .f64 4641240890982006784 = fwiden (canon .f32 1128792064) := by decide +kernel
    rw [e] at hlt
    have hcf : Ax.Fin .f32 (canon .f32 1128792064) := by unfold Ax.Fin; decide +kernel
    have := (widen_lt hcf hf).1 hlt
    have hc2 : pos .f32 (canon .f32 1128792064) = 1128792064 := by decide +kernel
    have := h.2.2
    omega
  · rw [(leZ_inf h hi).1] at hlt
    have : pos .f64 (Ieee.double.word true Ieee.double.infRung) < pos .f64 (canon .f64 4641240890982006784) := by decide +kernel
    omega
theorem wide_lt {x : Nat} (h : LeZ x) : fcmp .lss .f64 (fwiden x) (canon .f64 13864612927836782592) = fcmp .lss .f32 x (canon .f32 3276275712) := by
  have hn : isNaN .f64 (fwiden x) = false := by rw [isNaN_widen]; exact h.1
  have hc : isNaN .f64 (canon .f64 13864612927836782592) = false := by decide +kernel
  have hc' : isNaN .f32 (canon .f32 3276275712) = false := by decide +kernel
  rw [cmp_lss hn hc, cmp_lss h.1 hc']
  rcases fin_of_nn h.1 with hf | hi
  · have e : canon .f64 13864612927836782592 = fwiden (canon .f32 3276275712) := by decide +kernel
    have hcf : Ax.Fin .f32 (canon .f32 3276275712) := by unfold Ax.Fin; decide +kernel
    rw [e, decide_eq_decide]
    exact widen_lt hf hcf
  · obtain ⟨i1, i2⟩ := leZ_inf h hi
    rw [i1, i2]
    have e1 : pos .f64 (Ieee.double.word true Ieee.double.infRung) < pos .f64 (canon .f64 13864612927836782592) := by decide +kernel
    have e2 : (-2139095040 : Int) < pos .f32 (canon .f32 3276275712) := by decide +kernel
    rw [decide_eq_true e1, decide_eq_true e2]

theorem iExpG {x : Nat} (hg : fcmp .gtr .f32 x (canon .f32 1128792064) = false) (hb0 : tooBig (exV x) = false) : Does Try.prog 40 [.flt .f32 x] (.flt .f32 (exR x)) := by
  refine Does.of_awp (X := cx 36) Try.func40 rfl (by kernel_rfl) rfl (by simp [cx]) [] rfl ?_
  conv => whnf
  repeat (first
    | (refine ⟨⟨by kernel_rfl, by kernel_rfl⟩, ?_⟩; conv => whnf)
    | (refine And.intro (by first | omega | (simp; done) | (simp; omega)) ?_; conv => whnf)
    | (refine Or.inl (And.intro (by omega) ?_); conv => whnf))
  (refine br_intro (fun h2 => ?_) (fun h2 => ?_) <;> (conv => whnf))
  · exfalso; rw [hg] at h2; cases h2
  repeat (first
    | (refine ⟨⟨by kernel_rfl, by kernel_rfl⟩, ?_⟩; conv => whnf)
    | (refine And.intro (by first | omega | (simp; done) | (simp; omega)) ?_; conv => whnf)
    | (refine Or.inl (And.intro (by omega) ?_); conv => whnf))
  (refine br_intro (fun h3 => ?_) (fun h3 => ?_) <;> (conv => whnf))
  · have e : exR x = canon .f32 0 := by rw [exR, exV, h3, cond_true]; decide +kernel
    rw [e]
    repeat (first
      | (refine ⟨⟨by kernel_rfl, by kernel_rfl⟩, ?_⟩; conv => whnf)
      | (refine And.intro (by first | omega | (simp; done) | (simp; omega)) ?_; conv => whnf)
      | (refine Or.inl (And.intro (by omega) ?_); conv => whnf))
    all_goals (try (conv => whnf))
    all_goals (repeat' (first | exact True.intro | (refine And.intro ?_ ?_ <;> (conv => whnf))))
    all_goals (first | rfl | (simp_all []; done) | (simp only [cond_true, cond_false, Bool.and_true, Bool.true_and, Bool.and_false, Bool.false_and]; rfl) | (simp_all []; omega))
  have e : exR x = fnarrow (exW x) := by rw [exR, exV, h3, cond_false]
  have hb : tooBig (exW x) = false := by
    have := hb0
    rw [exV, h3, cond_false] at this
    exact this
  clear hg h2 h3
  repeat (first
    | (refine ⟨⟨by kernel_rfl, by kernel_rfl⟩, ?_⟩; conv => whnf)
    | (refine And.intro (by first | omega | (simp; done) | (simp; omega)) ?_; conv => whnf)
    | (refine Or.inl (And.intro (by omega) ?_); conv => whnf))
  refine ⟨Nat, fun j => j ≤ 12, fun j => [(3, .flt .f64 (exT x)), (4, .flt .f64 (exP (exT x) j)), (5, .int .i64 (12 - (j : Int)))], fun _ => [], fun j => 12 - j, ⟨0, id, Nat.zero_le _, rfl, ⟨rfl, rfl, rfl, trivial⟩, trivial⟩, fun j hj => ?_⟩
  dsimp only at hj
  conv => whnf
  (refine br_intro (fun h1 => ?_) (fun h1 => ?_) <;> (conv => whnf))
  · have h1 : j < 12 := by simp at h1; omega
    have e : (12 : Int) - (j : Int) - 1 = 12 - ((j + 1 : Nat) : Int) := by omega
    repeat (first
      | (refine ⟨⟨by kernel_rfl, by kernel_rfl⟩, ?_⟩; conv => whnf)
      | (refine And.intro (by first | omega | (simp; done) | (simp; omega)) ?_; conv => whnf)
      | (refine Or.inl (And.intro (by omega) ?_); conv => whnf))
    refine ⟨j + 1, id, ⟨h1, by dsimp only; omega⟩, rfl, ⟨rfl, rfl, congrArg (AV.int .i64) e, trivial⟩, trivial⟩
  have h1 : j = 12 := by simp at h1; omega
  subst h1
  repeat (first
    | (refine ⟨⟨by kernel_rfl, by kernel_rfl⟩, ?_⟩; conv => whnf)
    | (refine And.intro (by first | omega | (simp; done) | (simp; omega)) ?_; conv => whnf)
    | (refine Or.inl (And.intro (by omega) ?_); conv => whnf))
  refine ⟨Nat, fun j => j ≤ 8, fun j => [(4, .flt .f64 (exQ (exP (exT x) 12) j)), (28, .int .i64 j)], fun _ => [], fun j => 8 - j, ⟨0, id, Nat.zero_le _, rfl, ⟨rfl, rfl, trivial⟩, trivial⟩, fun j hj => ?_⟩
  dsimp only at hj
  conv => whnf
  (refine br_intro (fun h1 => ?_) (fun h1 => ?_) <;> (conv => whnf))
  · have h1 : j < 8 := by simp at h1; omega
    repeat (first
      | (refine ⟨⟨by kernel_rfl, by kernel_rfl⟩, ?_⟩; conv => whnf)
      | (refine And.intro (by first | omega | (simp; done) | (simp; omega)) ?_; conv => whnf)
      | (refine Or.inl (And.intro (by omega) ?_); conv => whnf))
    refine ⟨j + 1, id, ⟨h1, by dsimp only; omega⟩, rfl, ⟨rfl, rfl, trivial⟩, trivial⟩
  · have h1 : j = 8 := by simp at h1; omega
    subst h1
    repeat (first
      | (refine ⟨⟨by kernel_rfl, by kernel_rfl⟩, ?_⟩; conv => whnf)
      | (refine And.intro (by first | omega | (simp; done) | (simp; omega)) ?_; conv => whnf)
      | (refine Or.inl (And.intro (by omega) ?_); conv => whnf))
    refine And.intro hb ?_
    conv => whnf
    exact congrArg (AV.flt .f32) e.symm
theorem iExp {x : Nat} (h : LeZ x) : Does Try.prog 40 [.flt .f32 x] (.flt .f32 (exR x)) := iExpG (leZ_gt h) (narrow_unit (exV_unit h)).1

end Go.Proofs.Ytddedcedkpigkaa
