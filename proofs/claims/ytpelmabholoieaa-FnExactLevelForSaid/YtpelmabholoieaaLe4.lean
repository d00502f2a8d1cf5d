/- What each function of this seat does (Le4). Printed from templates of this seat's own. -/
import Derived.Test.YtpelmabholoieaaLe3
namespace Go.Proofs.Ytpelmabholoieaa
open Go.Ax Go.Bx
set_option maxRecDepth 8000
set_option linter.unusedSimpArgs false
set_option linter.unusedVariables false

theorem xInf : Does Try.prog 52 [.int .i64 1] (.flt .f64 (canon .f64 9218868437227405312)) := by
  refine Does.of_awp (X := cx 8) Try.func52 rfl (by kernel_rfl) rfl (by simp [cx]) [] rfl ?_
  conv => whnf
  repeat (first
    | (refine ⟨⟨by kernel_rfl, by kernel_rfl⟩, ?_⟩; conv => whnf)
    | (refine And.intro (by first | omega | (simp; done) | (simp; omega)) ?_; conv => whnf)
    | (refine Or.inl (And.intro (by omega) ?_); conv => whnf)
    | (refine br_intro (fun h => by exfalso; first | (simp at h; done) | (simp at h; omega) | omega) (fun _ => ?_); conv => whnf)
    | (refine br_intro (fun _ => ?_) (fun h => by exfalso; first | (simp at h; done) | (simp at h; omega) | omega); conv => whnf)
    | (refine Exists.intro _ (And.intro (xFloat64frombitsK (b := 9218868437227405312) rfl (by decide)) ?_); conv => whnf))
  all_goals (try (conv => whnf))
  all_goals (repeat' (first | exact True.intro | (refine And.intro ?_ ?_ <;> (conv => whnf))))
  all_goals (first | rfl | (simp_all []; done) | (simp only [cond_true, cond_false, Bool.and_true, Bool.true_and, Bool.and_false, Bool.false_and]; rfl) | (simp_all []; omega))
theorem xInfN : Does Try.prog 52 [.int .i64 (-1)] (.flt .f64 (canon .f64 18442240474082181120)) := by
  refine Does.of_awp (X := cx 8) Try.func52 rfl (by kernel_rfl) rfl (by simp [cx]) [] rfl ?_
  conv => whnf
  repeat (first
    | (refine ⟨⟨by kernel_rfl, by kernel_rfl⟩, ?_⟩; conv => whnf)
    | (refine And.intro (by first | omega | (simp; done) | (simp; omega)) ?_; conv => whnf)
    | (refine Or.inl (And.intro (by omega) ?_); conv => whnf)
    | (refine br_intro (fun h => by exfalso; first | (simp at h; done) | (simp at h; omega) | omega) (fun _ => ?_); conv => whnf)
    | (refine br_intro (fun _ => ?_) (fun h => by exfalso; first | (simp at h; done) | (simp at h; omega) | omega); conv => whnf)
    | (refine Exists.intro _ (And.intro (xFloat64frombitsK (b := 18442240474082181120) rfl (by decide)) ?_); conv => whnf))
  all_goals (try (conv => whnf))
  all_goals (repeat' (first | exact True.intro | (refine And.intro ?_ ?_ <;> (conv => whnf))))
  all_goals (first | rfl | (simp_all []; done) | (simp only [cond_true, cond_false, Bool.and_true, Bool.true_and, Bool.and_false, Bool.false_and]; rfl) | (simp_all []; omega))

/-- A word of a number that is not below nought and has no minus sign. -/
def PW (y r : Nat) : Prop := y = FloatKind.f32.format.word false r ∧ r ≤ FloatKind.f32.format.infRung
theorem inf32 : FloatKind.f32.format.infRung = 2139095040 := by decide +kernel
noncomputable def lgF (r : Nat) : Nat := hid (if r = 0 then 4286578688 else if r = 2139095040 then 2139095040 else fnarrow (lgL (rungOf FloatKind.f64.format (fwiden (FloatKind.f32.format.word false r)))))
theorem lgF_eq (r : Nat) : lgF r = if r = 0 then 4286578688 else if r = 2139095040 then 2139095040 else fnarrow (lgL (rungOf FloatKind.f64.format (fwiden (FloatKind.f32.format.word false r)))) := hid_eq _
theorem pw_wide {y r : Nat} (h : PW y r) (h0 : r ≠ 0) (h1 : r ≠ 2139095040) : LgR (rungOf FloatKind.f64.format (fwiden y)) ∧ fwiden y = lgW (rungOf FloatKind.f64.format (fwiden y)) := by
  obtain ⟨hy, hr⟩ := h
  rw [hy]
  clear hy
  have hi := inf32
  obtain ⟨f1, f2⟩ := word_facts (k := .f32) (s := false) hr
  have fx : Ax.Fin .f32 (FloatKind.f32.format.word false r) := by unfold Ax.Fin; rw [f2]; omega
  obtain ⟨w1, w2, w3⟩ := widen_val fx
  rw [f1] at w2
  have hv : valR .f32 (FloatKind.f32.format.word false r) = rungV FloatKind.f32.format.binade r := word_val hr
  have hb := binade_pos FloatKind.f32.format
  have e1 : rungV FloatKind.f32.format.binade 1 = 1 := by decide +kernel
  have lo : 1 ≤ rungV FloatKind.f32.format.binade r := by rw [← e1]; exact (rungV_le_iff hb).2 (by omega)
  have up : rungV FloatKind.f32.format.binade r < rungV FloatKind.f32.format.binade 2139095040 := (rungV_lt_iff hb).2 (by omega)
  refine ⟨⟨?_, ?_⟩, ?_⟩
  · refine (rungV_le_iff (binade_pos FloatKind.f64.format)).1 ?_
    have e2 : rungV FloatKind.f64.format.binade 3936146074321813504 = 1 * 2 ^ gap := by decide +kernel
    rw [e2]
    show _ ≤ valR .f64 _
    rw [w3, hv]
    exact Nat.mul_le_mul_right _ lo
  · refine (rungV_lt_iff (binade_pos FloatKind.f64.format)).1 ?_
    have e2 : rungV FloatKind.f64.format.binade 5183643171103440896 = rungV FloatKind.f32.format.binade 2139095040 * 2 ^ gap := by decide +kernel
    rw [e2]
    show valR .f64 _ < _
    rw [w3, hv]
    exact Nat.mul_lt_mul_of_pos_right up (Nat.two_pow_pos _)
  · rw [lgW_eq]
    have hlt : fwiden (FloatKind.f32.format.word false r) < 2 ^ Ieee.double.width := by
      obtain ⟨q, q1, q2, _⟩ := fwiden_fin fx
      have hw : Ieee.double.infRung < Ieee.double.signWeight := Ieee.double.infRung_lt
      have e3 : negOf Ieee.single (FloatKind.f32.format.word false r) = false := f1
      rw [q1, e3]
      show q < 2 ^ 64
      have hI : Ieee.double.infRung = 9218868437227405312 := inf64
      omega
    have := word_of Ieee.double hlt
    have w2' : negOf Ieee.double (fwiden (FloatKind.f32.format.word false r)) = false := w2
    rw [w2'] at this
    exact this.symm
theorem pw_cmp {y r : Nat} (h : PW y r) : fcmp .neq .f32 y y = false ∧ fcmp .lss .f32 y (canon .f32 0) = false ∧ fcmp .eql .f32 y (canon .f32 0) = decide (r = 0) ∧ fin y = decide (r ≠ 2139095040) := by
  obtain ⟨hy, hr⟩ := h
  rw [hy]
  clear hy
  obtain ⟨f1, f2⟩ := word_facts (k := .f32) (s := false) hr
  have hn := nn_word (s := false) hr
  have h0 : isNaN .f32 (canon .f32 0) = false := by decide +kernel
  have hp0 : pos .f32 (canon .f32 0) = 0 := by decide +kernel
  have hp : pos .f32 (FloatKind.f32.format.word false r) = (r : Int) := by rw [pos_word' hr]; rfl
  have hi := inf32
  refine ⟨by rw [neq_self]; exact hn, ?_, ?_, ?_⟩
  · rw [cmp_lss hn h0, hp, hp0]; exact decide_eq_false (by omega)
  · rw [eql_num hn h0, hp, hp0, decide_eq_decide]; omega
  · rw [fin_eq]
    unfold isFin
    rw [f2, decide_eq_decide]
    omega

theorem sLogZero : Does Try.prog 55 [.flt .f64 (canon .f64 0)] (.flt .f64 (canon .f64 18442240474082181120)) := by
  refine Does.of_awp (X := cx 64) Try.func55 rfl (by kernel_rfl) rfl (by simp [cx]) [] rfl ?_
  conv => whnf
  repeat (first
    | (refine ⟨⟨by kernel_rfl, by kernel_rfl⟩, ?_⟩; conv => whnf)
    | (refine And.intro (by first | omega | (simp; done) | (simp; omega)) ?_; conv => whnf)
    | (refine Or.inl (And.intro (by omega) ?_); conv => whnf)
    | (refine Exists.intro _ (And.intro (xInfN) ?_); conv => whnf))
  all_goals (try (conv => whnf))
  all_goals (repeat' (first | exact True.intro | (refine And.intro ?_ ?_ <;> (conv => whnf))))
  all_goals (first | rfl | (simp_all []; done) | (simp only [cond_true, cond_false, Bool.and_true, Bool.true_and, Bool.and_false, Bool.false_and]; rfl) | (simp_all []; omega))
theorem sLogInf : Does Try.prog 55 [.flt .f64 (canon .f64 9218868437227405312)] (.flt .f64 (canon .f64 9218868437227405312)) := by
  refine Does.of_awp (X := cx 64) Try.func55 rfl (by kernel_rfl) rfl (by simp [cx]) [] rfl ?_
  conv => whnf
  repeat (first
    | (refine ⟨⟨by kernel_rfl, by kernel_rfl⟩, ?_⟩; conv => whnf)
    | (refine And.intro (by first | omega | (simp; done) | (simp; omega)) ?_; conv => whnf)
    | (refine Or.inl (And.intro (by omega) ?_); conv => whnf)
    | (refine Exists.intro _ (And.intro (xIsInf1) ?_); conv => whnf))
  all_goals (try (conv => whnf))
  all_goals (repeat' (first | exact True.intro | (refine And.intro ?_ ?_ <;> (conv => whnf))))
  all_goals (first | rfl | (simp_all []; done) | (simp only [cond_true, cond_false, Bool.and_true, Bool.true_and, Bool.and_false, Bool.false_and]; rfl) | (simp_all []; omega))

theorem sLog {y r : Nat} (h : PW y r) : Does Try.prog 43 [.flt .f32 y] (.flt .f32 (lgF r)) := by
  by_cases h0 : r = 0
  · subst h0
    obtain ⟨rfl, _⟩ := h
    have e1 : fwiden (FloatKind.f32.format.word false 0) = canon .f64 0 := by decide +kernel
    have e2 : fnarrow (canon .f64 18442240474082181120) = lgF 0 := by rw [lgF_eq, if_pos rfl]; decide +kernel
    have e3 : tooBig (canon .f64 18442240474082181120) = false := by decide +kernel
    have eW : Does Try.prog 55 [.flt .f64 (fwiden (FloatKind.f32.format.word false 0))] (.flt .f64 (canon .f64 18442240474082181120)) := by rw [e1]; exact sLogZero
    rw [← e2]
    clear e2
    refine Does.of_awp (X := cx 7) Try.func43 rfl (by kernel_rfl) rfl (by simp [cx]) [] rfl ?_
    conv => whnf
    repeat (first
      | (refine ⟨⟨by kernel_rfl, by kernel_rfl⟩, ?_⟩; conv => whnf)
      | (refine And.intro (by first | omega | (simp; done) | (simp; omega)) ?_; conv => whnf)
      | (refine Or.inl (And.intro (by omega) ?_); conv => whnf)
      | (refine Exists.intro _ (And.intro (eW) ?_); conv => whnf)
      | (refine Exists.intro _ (And.intro (sNarrow e3) ?_); conv => whnf))
  · by_cases h1 : r = 2139095040
    · subst h1
      obtain ⟨rfl, _⟩ := h
      have e1 : fwiden (FloatKind.f32.format.word false 2139095040) = canon .f64 9218868437227405312 := by decide +kernel
      have e2 : fnarrow (canon .f64 9218868437227405312) = lgF 2139095040 := by rw [lgF_eq, if_neg (by decide), if_pos rfl]; decide +kernel
      have e3 : tooBig (canon .f64 9218868437227405312) = false := by decide +kernel
      have eW : Does Try.prog 55 [.flt .f64 (fwiden (FloatKind.f32.format.word false 2139095040))] (.flt .f64 (canon .f64 9218868437227405312)) := by rw [e1]; exact sLogInf
      rw [← e2]
      clear e2
      refine Does.of_awp (X := cx 7) Try.func43 rfl (by kernel_rfl) rfl (by simp [cx]) [] rfl ?_
      conv => whnf
      repeat (first
        | (refine ⟨⟨by kernel_rfl, by kernel_rfl⟩, ?_⟩; conv => whnf)
        | (refine And.intro (by first | omega | (simp; done) | (simp; omega)) ?_; conv => whnf)
        | (refine Or.inl (And.intro (by omega) ?_); conv => whnf)
        | (refine Exists.intro _ (And.intro (eW) ?_); conv => whnf)
        | (refine Exists.intro _ (And.intro (sNarrow e3) ?_); conv => whnf))
    · obtain ⟨k1, k2⟩ := pw_wide h h0 h1
      have e2 : lgF r = fnarrow (lgL (rungOf FloatKind.f64.format (fwiden y))) := by rw [lgF_eq, if_neg h0, if_neg h1, h.1]
      have eW : Does Try.prog 55 [.flt .f64 (fwiden y)] (.flt .f64 (lgL (rungOf FloatKind.f64.format (fwiden y)))) := by
        have := sLogWide k1
        rwa [← k2] at this
      have e3 := (lgN k1).1
      rw [e2]
      clear e2
      generalize lgL (rungOf FloatKind.f64.format (fwiden y)) = L at *
      refine Does.of_awp (X := cx 7) Try.func43 rfl (by kernel_rfl) rfl (by simp [cx]) [] rfl ?_
      conv => whnf
      repeat (first
        | (refine ⟨⟨by kernel_rfl, by kernel_rfl⟩, ?_⟩; conv => whnf)
        | (refine And.intro (by first | omega | (simp; done) | (simp; omega)) ?_; conv => whnf)
        | (refine Or.inl (And.intro (by omega) ?_); conv => whnf)
        | (refine Exists.intro _ (And.intro (eW) ?_); conv => whnf)
        | (refine Exists.intro _ (And.intro (sNarrow e3) ?_); conv => whnf))

theorem iLogarithm {y r : Nat} (h : PW y r) (h0 : r ≠ 0) (h1 : r ≠ 2139095040) : Does Try.prog 58 [.flt .f32 y] (.flt .f64 (lgL (rungOf FloatKind.f64.format (fwiden y)))) := by
  obtain ⟨k1, k2⟩ := pw_wide h h0 h1
  have eW : Does Try.prog 63 [.flt .f64 (fwiden y)] (.flt .f64 (lgL (rungOf FloatKind.f64.format (fwiden y)))) := by
    have := iLogWide k1
    rwa [← k2] at this
  generalize lgL (rungOf FloatKind.f64.format (fwiden y)) = L at *
  refine Does.of_awp (X := cx 6) Try.func58 rfl (by kernel_rfl) rfl (by simp [cx]) [] rfl ?_
  conv => whnf
  repeat (first
    | (refine ⟨⟨by kernel_rfl, by kernel_rfl⟩, ?_⟩; conv => whnf)
    | (refine And.intro (by first | omega | (simp; done) | (simp; omega)) ?_; conv => whnf)
    | (refine Or.inl (And.intro (by omega) ?_); conv => whnf)
    | (refine Exists.intro _ (And.intro (eW) ?_); conv => whnf))

theorem iLog {y r : Nat} (h : PW y r) : Does Try.prog 47 [.flt .f32 y] (.flt .f32 (lgF r)) := by
  obtain ⟨c1, c2, c3, c4⟩ := pw_cmp h
  have eL := lgF_eq r
  have hL := fun (h0 : r ≠ 0) (h1 : r ≠ 2139095040) => And.intro (iLogarithm h h0 h1) (lgN (pw_wide h h0 h1).1).1
  have hy := h.1
  refine Does.of_awp (X := cx 26) Try.func47 rfl (by kernel_rfl) rfl (by simp [cx]) [] rfl ?_
  conv => whnf
  repeat (first
    | (refine ⟨⟨by kernel_rfl, by kernel_rfl⟩, ?_⟩; conv => whnf)
    | (refine And.intro (by first | omega | (simp; done) | (simp; omega)) ?_; conv => whnf)
    | (refine Or.inl (And.intro (by omega) ?_); conv => whnf))
  (refine br_intro (fun g1 => ?_) (fun g1 => ?_) <;> (conv => whnf))
  · exfalso; rw [c1] at g1; cases g1
  repeat (first
    | (refine ⟨⟨by kernel_rfl, by kernel_rfl⟩, ?_⟩; conv => whnf)
    | (refine And.intro (by first | omega | (simp; done) | (simp; omega)) ?_; conv => whnf)
    | (refine Or.inl (And.intro (by omega) ?_); conv => whnf))
  (refine br_intro (fun g2 => ?_) (fun g2 => ?_) <;> (conv => whnf))
  · exfalso; rw [c2] at g2; cases g2
  repeat (first
    | (refine ⟨⟨by kernel_rfl, by kernel_rfl⟩, ?_⟩; conv => whnf)
    | (refine And.intro (by first | omega | (simp; done) | (simp; omega)) ?_; conv => whnf)
    | (refine Or.inl (And.intro (by omega) ?_); conv => whnf))
  (refine br_intro (fun g3 => ?_) (fun g3 => ?_) <;> (conv => whnf))
  · have h0 : r = 0 := by rw [c3] at g3; exact of_decide_eq_true g3
    have e2 : fnarrow (canon .f64 18442240474082181120) = lgF r := by rw [eL, if_pos h0]; decide +kernel
    rw [← e2]
    clear e2 eL hL
    repeat (first
      | (refine ⟨⟨by kernel_rfl, by kernel_rfl⟩, ?_⟩; conv => whnf)
      | (refine And.intro (by first | omega | (simp; done) | (simp; omega)) ?_; conv => whnf)
      | (refine Or.inl (And.intro (by omega) ?_); conv => whnf)
      | (refine Exists.intro _ (And.intro (xInfN) ?_); conv => whnf))
    refine And.intro (by decide +kernel) ?_
    conv => whnf
    all_goals (try (conv => whnf))
    all_goals (repeat' (first | exact True.intro | (refine And.intro ?_ ?_ <;> (conv => whnf))))
    all_goals (first | rfl | (simp_all []; done) | (simp only [cond_true, cond_false, Bool.and_true, Bool.true_and, Bool.and_false, Bool.false_and]; rfl) | (simp_all []; omega))
  have h0 : r ≠ 0 := by rw [c3] at g3; exact of_decide_eq_false g3
  repeat (first
    | (refine ⟨⟨by kernel_rfl, by kernel_rfl⟩, ?_⟩; conv => whnf)
    | (refine And.intro (by first | omega | (simp; done) | (simp; omega)) ?_; conv => whnf)
    | (refine Or.inl (And.intro (by omega) ?_); conv => whnf)
    | (refine Exists.intro _ (And.intro (iIsFinite) ?_); conv => whnf))
  (refine br_intro (fun g4 => ?_) (fun g4 => ?_) <;> (conv => whnf))
  · have h1 : r = 2139095040 := by
      have g4 : (!fin y) = true := g4
      rw [c4] at g4
      simp at g4
      exact g4
    have e2 : y = lgF r := by rw [eL, if_neg h0, if_pos h1, hy, h1]; rfl
    rw [← e2]
    repeat (first
      | (refine ⟨⟨by kernel_rfl, by kernel_rfl⟩, ?_⟩; conv => whnf)
      | (refine And.intro (by first | omega | (simp; done) | (simp; omega)) ?_; conv => whnf)
      | (refine Or.inl (And.intro (by omega) ?_); conv => whnf))
    all_goals (try (conv => whnf))
    all_goals (repeat' (first | exact True.intro | (refine And.intro ?_ ?_ <;> (conv => whnf))))
    all_goals (first | rfl | (simp_all []; done) | (simp only [cond_true, cond_false, Bool.and_true, Bool.true_and, Bool.and_false, Bool.false_and]; rfl) | (simp_all []; omega))
  · have h1 : r ≠ 2139095040 := by
      have g4 : (!fin y) = false := g4
      rw [c4] at g4
      simp at g4
      exact g4
    obtain ⟨q1, q2⟩ := hL h0 h1
    have e2 : lgF r = fnarrow (lgL (rungOf FloatKind.f64.format (fwiden y))) := by rw [eL, if_neg h0, if_neg h1, hy]
    rw [e2]
    clear e2 eL hL hy
    generalize lgL (rungOf FloatKind.f64.format (fwiden y)) = L at *
    repeat (first
      | (refine ⟨⟨by kernel_rfl, by kernel_rfl⟩, ?_⟩; conv => whnf)
      | (refine And.intro (by first | omega | (simp; done) | (simp; omega)) ?_; conv => whnf)
      | (refine Or.inl (And.intro (by omega) ?_); conv => whnf)
      | (refine Exists.intro _ (And.intro (q1) ?_); conv => whnf))

end Go.Proofs.Ytpelmabholoieaa
