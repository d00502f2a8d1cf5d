/- What each function of this seat does (Le5). Printed from templates of this seat's own. -/
import Derived.Test.YtpelmabholoieaaLe4
namespace Go.Proofs.Ytpelmabholoieaa
open Go.Ax Go.Bx
set_option maxRecDepth 8000
set_option linter.unusedSimpArgs false
set_option linter.unusedVariables false
/-! What is raised, and the level. -/
def ZZ (z : Nat) : Prop := LeZ z ∨ (∃ r, z = FloatKind.f32.format.word false r ∧ r ≤ tb32 77) ∨ z = 2139095040
noncomputable def exE (z : Nat) : Nat := hid (if z = 2139095040 then 2139095040 else exR z)
theorem exE_eq (z : Nat) : exE z = if z = 2139095040 then 2139095040 else exR z := hid_eq _
theorem tb77 : tb32 77 = 1117388800 := by decide +kernel
theorem ex_facts {z : Nat} (h : LeZ z ∨ ∃ r, z = FloatKind.f32.format.word false r ∧ r ≤ tb32 77) : z ≠ 2139095040 ∧ isNaN .f32 z = false ∧ fcmp .gtr .f32 z (canon .f32 1128792064) = false ∧ fcmp .gtr .f64 (fwiden z) (canon .f64 4641240890982006784) = false ∧ fcmp .lss .f64 (fwiden z) (canon .f64 13864612927836782592) = fcmp .lss .f32 z (canon .f32 3276275712) ∧ tooBig (exV z) = false := by
  rcases h with h | ⟨r, hz, hr⟩
  · refine ⟨fun e => ?_, h.1, leZ_gt h, wide_gt h, wide_lt h, (narrow_unit (exV_unit h)).1⟩
    have := h.2.2
    rw [e] at this
    have h2 : pos .f32 2139095040 = 2139095040 := by decide +kernel
    omega
  · have hi := inf32
    have h77 := tb77
    have hle : r ≤ FloatKind.f32.format.infRung := by omega
    obtain ⟨f1, f2⟩ := word_facts (k := .f32) (s := false) hle
    have hn : isNaN .f32 z = false := by rw [hz]; exact nn_word hle
    have hp : pos .f32 z = (r : Int) := by rw [hz, pos_word' hle]; rfl
    have fz : Ax.Fin .f32 z := by unfold Ax.Fin; rw [hz, f2]; omega
    have c1 : isNaN .f32 (canon .f32 1128792064) = false := by decide +kernel
    have c2 : pos .f32 (canon .f32 1128792064) = 1128792064 := by decide +kernel
    have c3 : isNaN .f32 (canon .f32 3276275712) = false := by decide +kernel
    have c4 : pos .f32 (canon .f32 3276275712) = -1128792064 := by decide +kernel
    have d1 : isNaN .f64 (canon .f64 4641240890982006784) = false := by decide +kernel
    have d3 : isNaN .f64 (canon .f64 13864612927836782592) = false := by decide +kernel
    have e1 : canon .f64 4641240890982006784 = fwiden (canon .f32 1128792064) := by decide +kernel
    have e2 : canon .f64 13864612927836782592 = fwiden (canon .f32 3276275712) := by decide +kernel
    have g1 : Ax.Fin .f32 (canon .f32 1128792064) := by unfold Ax.Fin; decide +kernel
    have g2 : Ax.Fin .f32 (canon .f32 3276275712) := by unfold Ax.Fin; decide +kernel
    have hw : isNaN .f64 (fwiden z) = false := by rw [isNaN_widen]; exact hn
    have hl : fcmp .lss .f32 z (canon .f32 3276275712) = false := by rw [cmp_lss hn c3, hp, c4]; exact decide_eq_false (by omega)
    refine ⟨fun e => ?_, hn, ?_, ?_, ?_, ?_⟩
    · rw [e] at hp
      have h2 : pos .f32 2139095040 = 2139095040 := by decide +kernel
      omega
    · rw [cmp_gtr hn c1, hp, c2]; exact decide_eq_false (by omega)
    · rw [cmp_gtr hw d1]
      refine decide_eq_false fun hlt => ?_
      rw [e1] at hlt
      have := (widen_lt g1 fz).1 hlt
      omega
    · rw [hl, cmp_lss hw d3]
      refine decide_eq_false fun hlt => ?_
      rw [e2] at hlt
      have := (widen_lt fz g2).1 hlt
      omega
    · rw [exV, hl, cond_false]
      exact exW_big hz hr

theorem sExpWideInf : Does Try.prog 54 [.flt .f64 (fwiden 2139095040)] (.flt .f64 (canon .f64 9218868437227405312)) := by
  have e : fwiden 2139095040 = canon .f64 9218868437227405312 := by decide +kernel
  rw [e]
  refine Does.of_awp (X := cx 37) Try.func54 rfl (by kernel_rfl) rfl (by simp [cx]) [] rfl ?_
  conv => whnf
  repeat (first
    | (refine ⟨⟨by kernel_rfl, by kernel_rfl⟩, ?_⟩; conv => whnf)
    | (refine And.intro (by first | omega | (simp; done) | (simp; omega)) ?_; conv => whnf)
    | (refine Or.inl (And.intro (by omega) ?_); conv => whnf)
    | (refine Exists.intro _ (And.intro (xInf) ?_); conv => whnf))
  all_goals (try (conv => whnf))
  all_goals (repeat' (first | exact True.intro | (refine And.intro ?_ ?_ <;> (conv => whnf))))
  all_goals (first | rfl | (simp_all []; done) | (simp only [cond_true, cond_false, Bool.and_true, Bool.true_and, Bool.and_false, Bool.false_and]; rfl) | (simp_all []; omega))

theorem sExpZ {z : Nat} (h : ZZ z) : Does Try.prog 42 [.flt .f32 z] (.flt .f32 (exE z)) := by
  have go : (LeZ z ∨ ∃ r, z = FloatKind.f32.format.word false r ∧ r ≤ tb32 77) → Does Try.prog 42 [.flt .f32 z] (.flt .f32 (exE z)) := fun h => by
    obtain ⟨h0, h1, h2, h3, h4, h5⟩ := ex_facts h
    rw [exE_eq, if_neg h0]
    exact sExpG h1 h3 h4 h5
  rcases h with h | h | h
  · exact go (.inl h)
  · exact go (.inr h)
  · subst h
    have e2 : fnarrow (canon .f64 9218868437227405312) = exE 2139095040 := by rw [exE_eq, if_pos rfl]; decide +kernel
    have e3 : tooBig (canon .f64 9218868437227405312) = false := by decide +kernel
    rw [← e2]
    clear e2 go
    refine Does.of_awp (X := cx 7) Try.func42 rfl (by kernel_rfl) rfl (by simp [cx]) [] rfl ?_
    conv => whnf
    repeat (first
      | (refine ⟨⟨by kernel_rfl, by kernel_rfl⟩, ?_⟩; conv => whnf)
      | (refine And.intro (by first | omega | (simp; done) | (simp; omega)) ?_; conv => whnf)
      | (refine Or.inl (And.intro (by omega) ?_); conv => whnf)
      | (refine Exists.intro _ (And.intro (sExpWideInf) ?_); conv => whnf)
      | (refine Exists.intro _ (And.intro (sNarrow e3) ?_); conv => whnf))

theorem iExpZ {z : Nat} (h : ZZ z) : Does Try.prog 38 [.flt .f32 z] (.flt .f32 (exE z)) := by
  have go : (LeZ z ∨ ∃ r, z = FloatKind.f32.format.word false r ∧ r ≤ tb32 77) → Does Try.prog 38 [.flt .f32 z] (.flt .f32 (exE z)) := fun h => by
    obtain ⟨h0, h1, h2, h3, h4, h5⟩ := ex_facts h
    rw [exE_eq, if_neg h0]
    exact iExpG h2 h5
  rcases h with h | h | h
  · exact go (.inl h)
  · exact go (.inr h)
  · subst h
    have e2 : fnarrow (canon .f64 9218868437227405312) = exE 2139095040 := by rw [exE_eq, if_pos rfl]; decide +kernel
    rw [← e2]
    clear e2 go
    refine Does.of_awp (X := cx 36) Try.func38 rfl (by kernel_rfl) rfl (by simp [cx]) [] rfl ?_
    conv => whnf
    repeat (first
      | (refine ⟨⟨by kernel_rfl, by kernel_rfl⟩, ?_⟩; conv => whnf)
      | (refine And.intro (by first | omega | (simp; done) | (simp; omega)) ?_; conv => whnf)
      | (refine Or.inl (And.intro (by omega) ?_); conv => whnf)
      | (refine Exists.intro _ (And.intro (xInf) ?_); conv => whnf))
    refine And.intro (by decide +kernel) ?_
    conv => whnf
    all_goals (try (conv => whnf))
    all_goals (repeat' (first | exact True.intro | (refine And.intro ?_ ?_ <;> (conv => whnf))))
    all_goals (first | rfl | (simp_all []; done) | (simp only [cond_true, cond_false, Bool.and_true, Bool.true_and, Bool.and_false, Bool.false_and]; rfl) | (simp_all []; omega))

theorem zz_of {r : Nat} (hr : r ≤ FloatKind.f32.format.infRung) : ZZ (lvZ (lgF r)) := by
  rw [lgF_eq]
  by_cases h0 : r = 0
  · rw [if_pos h0]
    left
    unfold LeZ lvZ
    decide +kernel
  · rw [if_neg h0]
    by_cases h1 : r = 2139095040
    · rw [if_pos h1]
      right; right
      unfold lvZ
      decide +kernel
    · rw [if_neg h1]
      obtain ⟨k1, k2⟩ := pw_wide (y := FloatKind.f32.format.word false r) ⟨rfl, hr⟩ h0 h1
      obtain ⟨_, s, q, e, q1, q2⟩ := lgN k1
      rw [e]
      rcases lvZ_cases q1 q2 with h | h
      · exact .inl h
      · exact .inr (.inl h)
noncomputable def lfQ (size flow : Nat) : Nat := fop .quo .f32 flow size
noncomputable def lfR (size flow : Nat) : Nat := rungOf FloatKind.f32.format (lfQ size flow)
noncomputable def lfS (size crest flow : Nat) : Nat := fop .add .f32 crest (exE (lvZ (lgF (lfR size flow))))
def lfG (size crest flow : Nat) : Bool := above size && fin crest && above flow
noncomputable def lfB (size crest flow : Nat) : Bool := lfG size crest flow && fin (lfS size crest flow)
noncomputable def lfV (size crest flow : Nat) : AV := .tup [.flt .f32 (bif lfB size crest flow then lfS size crest flow else canon .f32 0), .bool (lfB size crest flow)]
theorem above_pos {x : Nat} (h : above x = true) : Ax.Fin .f32 x ∧ negOf FloatKind.f32.format x = false ∧ 0 < valR .f32 x := by
  unfold above at h
  rw [Bool.and_eq_true] at h
  obtain ⟨hf, hg⟩ := h
  rw [fin_eq] at hf
  have hF : rungOf FloatKind.f32.format x < FloatKind.f32.format.infRung := of_decide_eq_true hf
  have hn : isNaN .f32 x = false := nan_false (Nat.le_of_lt hF)
  have h0 : isNaN .f32 (K 0) = false := by unfold K; decide +kernel
  have hp : pos .f32 (K 0) = 0 := by unfold K; decide +kernel
  rw [cmp_gtr hn h0, hp] at hg
  have := of_decide_eq_true hg
  unfold pos sg at this
  cases hs : negOf FloatKind.f32.format x
  · rw [hs] at this
    simp only [Bool.false_eq_true, if_false] at this
    refine ⟨hF, rfl, ?_⟩
    unfold valR
    have h1 := rungV_zero (binade_pos FloatKind.f32.format)
    have h2 := (rungV_lt_iff (binade_pos FloatKind.f32.format) (r := 0) (s := rungOf FloatKind.f32.format x)).2 (by omega)
    omega
  · rw [hs, if_pos rfl] at this; omega
theorem lf_pw {size flow : Nat} (h1 : above size = true) (h2 : above flow = true) : PW (lfQ size flow) (lfR size flow) := by
  obtain ⟨a1, a2, a3⟩ := above_pos h1
  obtain ⟨b1, b2, b3⟩ := above_pos h2
  obtain ⟨r, r1, r2, _⟩ := quo_up b1 a1 a3
  rw [a2, b2] at r1
  have e : lfQ size flow = FloatKind.f32.format.word false r := r1
  have e2 : lfR size flow = r := by unfold lfR; rw [e]; exact (word_facts (k := .f32) r2).2
  exact ⟨by rw [e2]; exact e, by rw [e2]; exact r2⟩

theorem sNumber {x : Nat} : Does Try.prog 41 [.flt .f32 x] (.tup [.flt .f32 (bif fin x then x else canon .f32 0), .bool (fin x)]) := by
  refine Does.of_awp (X := cx 8) Try.func41 rfl (by kernel_rfl) rfl (by simp [cx]) [] rfl ?_
  conv => whnf
  repeat' (first
    | (refine br_intro (fun h => ?_) (fun h => ?_) <;> (conv => whnf))
    | (refine ⟨⟨by kernel_rfl, by kernel_rfl⟩, ?_⟩; conv => whnf)
    | (refine And.intro (by first | omega | (simp; done) | (simp; omega)) ?_; conv => whnf)
    | (refine Or.inl (And.intro (by omega) ?_); conv => whnf)
    | (refine Exists.intro _ (And.intro (sFinite) ?_); conv => whnf))
  all_goals (try (conv => whnf))
  all_goals (repeat' (first | exact True.intro | (refine And.intro ?_ ?_ <;> (conv => whnf))))
  all_goals (first | rfl | (simp_all []; done) | (simp only [cond_true, cond_false, Bool.and_true, Bool.true_and, Bool.and_false, Bool.false_and]; rfl) | (simp_all []; omega))

theorem iNumber {x : Nat} : Does Try.prog 46 [.flt .f32 x] (.tup [.flt .f32 (bif fin x then x else canon .f32 0), .bool (fin x)]) := by
  refine Does.of_awp (X := cx 8) Try.func46 rfl (by kernel_rfl) rfl (by simp [cx]) [] rfl ?_
  conv => whnf
  repeat' (first
    | (refine br_intro (fun h => ?_) (fun h => ?_) <;> (conv => whnf))
    | (refine ⟨⟨by kernel_rfl, by kernel_rfl⟩, ?_⟩; conv => whnf)
    | (refine And.intro (by first | omega | (simp; done) | (simp; omega)) ?_; conv => whnf)
    | (refine Or.inl (And.intro (by omega) ?_); conv => whnf)
    | (refine Exists.intro _ (And.intro (iIsFinite) ?_); conv => whnf))
  all_goals (try (conv => whnf))
  all_goals (repeat' (first | exact True.intro | (refine And.intro ?_ ?_ <;> (conv => whnf))))
  all_goals (first | rfl | (simp_all []; done) | (simp only [cond_true, cond_false, Bool.and_true, Bool.true_and, Bool.and_false, Bool.false_and]; rfl) | (simp_all []; omega))

theorem iLengths {a b : Nat} {t : AV} : Does Try.prog 44 [.sli .f32 [a, b] t] (.bool (above a && above b)) := by
  have e : allN (fun j => above (([a, b] : List Nat).getD j 0)) ([a, b] : List Nat).length = (above a && above b) := by simp [allN]
  rw [← e]
  clear e
  generalize hl : ([a, b] : List Nat) = l
  have hn : l.length ≤ 2 := by rw [← hl]; exact Nat.le_refl _
  clear hl
  refine Does.of_awp (X := cx 15) Try.func44 rfl (by kernel_rfl) rfl (by simp [cx]) [] rfl ?_
  conv => whnf
  repeat (first
    | (refine ⟨⟨by kernel_rfl, by kernel_rfl⟩, ?_⟩; conv => whnf)
    | (refine And.intro (by first | omega | (simp; done) | (simp; omega)) ?_; conv => whnf)
    | (refine Or.inl (And.intro (by omega) ?_); conv => whnf))
  refine ⟨Nat, fun i => i ≤ l.length ∧ allN (fun j => above (l.getD j 0)) i = true, fun i => [(5, .sli .f32 l t), (6, .int .i64 l.length), (7, .int .i64 i)], fun _ => [], fun i => l.length - i, ⟨0, id, ⟨Nat.zero_le _, rfl⟩, rfl, ⟨rfl, rfl, rfl, trivial⟩, trivial⟩, fun i hi => ?_⟩
  obtain ⟨hi, hA⟩ := hi
  conv => whnf
  (refine br_intro (fun h => ?_) (fun h => ?_) <;> (conv => whnf))
  · have h : i < l.length := by simp at h; omega
    repeat (first
      | (refine ⟨⟨by kernel_rfl, by kernel_rfl⟩, ?_⟩; conv => whnf)
      | (refine And.intro (by first | omega | (simp; done) | (simp; omega)) ?_; conv => whnf)
      | (refine Or.inl (And.intro (by omega) ?_); conv => whnf)
      | (refine Exists.intro _ (And.intro (iLength) ?_); conv => whnf))
    (refine br_intro (fun hs => ?_) (fun hs => ?_) <;> (conv => whnf))
    · have := allN_false (p := fun j => above (l.getD j 0)) h (by simpa using hs)
      rw [this]
    · repeat (first
        | (refine ⟨⟨by kernel_rfl, by kernel_rfl⟩, ?_⟩; conv => whnf)
        | (refine And.intro (by first | omega | (simp; done) | (simp; omega)) ?_; conv => whnf)
        | (refine Or.inl (And.intro (by omega) ?_); conv => whnf))
      refine ⟨i + 1, id, ⟨⟨h, by simp only [allN, hA, Bool.true_and]; simpa using hs⟩, by dsimp only; omega⟩, rfl, ⟨rfl, rfl, rfl, trivial⟩, trivial⟩
  · have h : i = l.length := by simp at h; omega
    subst h
    rw [hA]

theorem sLevel {size crest flow : Nat} : Does Try.prog 19 [.flt .f32 size, .flt .f32 crest, .flt .f32 flow] (lfV size crest flow) := by
  have no : lfG size crest flow = false → lfB size crest flow = false := fun h => by rw [lfB, h]; rfl
  refine Does.of_awp (X := cx 32) Try.func19 rfl (by kernel_rfl) rfl (by simp [cx]) [] rfl ?_
  conv => whnf
  repeat (first
    | (refine ⟨⟨by kernel_rfl, by kernel_rfl⟩, ?_⟩; conv => whnf)
    | (refine And.intro (by first | omega | (simp; done) | (simp; omega)) ?_; conv => whnf)
    | (refine Or.inl (And.intro (by omega) ?_); conv => whnf)
    | (refine Exists.intro _ (And.intro (sAbove) ?_); conv => whnf))
  (refine br_intro (fun g1 => ?_) (fun g1 => ?_) <;> (conv => whnf))
  · have g1 : above size = false := by simpa using g1
    have h := no (by simp [lfG, g1])
    repeat (first
      | (refine ⟨⟨by kernel_rfl, by kernel_rfl⟩, ?_⟩; conv => whnf)
      | (refine And.intro (by first | omega | (simp; done) | (simp; omega)) ?_; conv => whnf)
      | (refine Or.inl (And.intro (by omega) ?_); conv => whnf)
      | (refine br_intro (fun h => by exfalso; first | (simp at h; done) | (simp at h; omega) | omega) (fun _ => ?_); conv => whnf)
      | (refine br_intro (fun _ => ?_) (fun h => by exfalso; first | (simp at h; done) | (simp at h; omega) | omega); conv => whnf))
    all_goals (try (conv => whnf))
    all_goals (repeat' (first | exact True.intro | (refine And.intro ?_ ?_ <;> (conv => whnf))))
    all_goals (first | rfl | (simp_all [lfV, h]; done) | (simp only [lfV, h, cond_true, cond_false, Bool.and_true, Bool.true_and, Bool.and_false, Bool.false_and]; rfl) | (simp_all [lfV, h]; omega))
  have g1 : above size = true := by simpa using g1
  repeat (first
    | (refine ⟨⟨by kernel_rfl, by kernel_rfl⟩, ?_⟩; conv => whnf)
    | (refine And.intro (by first | omega | (simp; done) | (simp; omega)) ?_; conv => whnf)
    | (refine Or.inl (And.intro (by omega) ?_); conv => whnf)
    | (refine Exists.intro _ (And.intro (sFinite) ?_); conv => whnf))
  (refine br_intro (fun g2 => ?_) (fun g2 => ?_) <;> (conv => whnf))
  · have g2 : fin crest = false := by simpa using g2
    have h := no (by simp [lfG, g2])
    repeat (first
      | (refine ⟨⟨by kernel_rfl, by kernel_rfl⟩, ?_⟩; conv => whnf)
      | (refine And.intro (by first | omega | (simp; done) | (simp; omega)) ?_; conv => whnf)
      | (refine Or.inl (And.intro (by omega) ?_); conv => whnf)
      | (refine br_intro (fun h => by exfalso; first | (simp at h; done) | (simp at h; omega) | omega) (fun _ => ?_); conv => whnf)
      | (refine br_intro (fun _ => ?_) (fun h => by exfalso; first | (simp at h; done) | (simp at h; omega) | omega); conv => whnf))
    all_goals (try (conv => whnf))
    all_goals (repeat' (first | exact True.intro | (refine And.intro ?_ ?_ <;> (conv => whnf))))
    all_goals (first | rfl | (simp_all [lfV, h]; done) | (simp only [lfV, h, cond_true, cond_false, Bool.and_true, Bool.true_and, Bool.and_false, Bool.false_and]; rfl) | (simp_all [lfV, h]; omega))
  have g2 : fin crest = true := by simpa using g2
  repeat (first
    | (refine ⟨⟨by kernel_rfl, by kernel_rfl⟩, ?_⟩; conv => whnf)
    | (refine And.intro (by first | omega | (simp; done) | (simp; omega)) ?_; conv => whnf)
    | (refine Or.inl (And.intro (by omega) ?_); conv => whnf)
    | (refine Exists.intro _ (And.intro (sAbove) ?_); conv => whnf))
  (refine br_intro (fun g3 => ?_) (fun g3 => ?_) <;> (conv => whnf))
  · have g3 : above flow = false := by simpa using g3
    have h := no (by simp [lfG, g3])
    repeat (first
      | (refine ⟨⟨by kernel_rfl, by kernel_rfl⟩, ?_⟩; conv => whnf)
      | (refine And.intro (by first | omega | (simp; done) | (simp; omega)) ?_; conv => whnf)
      | (refine Or.inl (And.intro (by omega) ?_); conv => whnf)
      | (refine br_intro (fun h => by exfalso; first | (simp at h; done) | (simp at h; omega) | omega) (fun _ => ?_); conv => whnf)
      | (refine br_intro (fun _ => ?_) (fun h => by exfalso; first | (simp at h; done) | (simp at h; omega) | omega); conv => whnf))
    all_goals (try (conv => whnf))
    all_goals (repeat' (first | exact True.intro | (refine And.intro ?_ ?_ <;> (conv => whnf))))
    all_goals (first | rfl | (simp_all [lfV, h]; done) | (simp only [lfV, h, cond_true, cond_false, Bool.and_true, Bool.true_and, Bool.and_false, Bool.false_and]; rfl) | (simp_all [lfV, h]; omega))
  have g3 : above flow = true := by simpa using g3
  have hp := lf_pw g1 g3
  have hz := zz_of hp.2
  have eB : lfB size crest flow = fin (lfS size crest flow) := by rw [lfB, lfG, g1, g2, g3]; rfl
  unfold lfV
  rw [eB]
  clear eB no g1 g2 g3
  have e1 : Does Try.prog 43 [.flt .f32 (lfQ size flow)] (.flt .f32 (lgF (lfR size flow))) := sLog hp
  have e2 : Does Try.prog 42 [.flt .f32 (lvZ (lgF (lfR size flow)))] (.flt .f32 (exE (lvZ (lgF (lfR size flow))))) := sExpZ hz
  repeat (first
    | (refine ⟨⟨by kernel_rfl, by kernel_rfl⟩, ?_⟩; conv => whnf)
    | (refine And.intro (by first | omega | (simp; done) | (simp; omega)) ?_; conv => whnf)
    | (refine Or.inl (And.intro (by omega) ?_); conv => whnf)
    | (refine Exists.intro _ (And.intro (e1) ?_); conv => whnf)
    | (refine Exists.intro _ (And.intro (e2) ?_); conv => whnf)
    | (refine Exists.intro _ (And.intro (sNumber) ?_); conv => whnf))
  all_goals (try (conv => whnf))
  all_goals (repeat' (first | exact True.intro | (refine And.intro ?_ ?_ <;> (conv => whnf))))
  all_goals (first | rfl | (simp_all []; done) | (simp only [cond_true, cond_false, Bool.and_true, Bool.true_and, Bool.and_false, Bool.false_and]; rfl) | (simp_all []; omega))

theorem nott1 {b : Bool} (h : (!b) = true) : b = false := by cases b <;> simp at h ⊢
theorem notf1 {b : Bool} (h : (!b) = false) : b = true := by cases b <;> simp at h ⊢
theorem iLevel {size crest flow : Nat} : Does Try.prog 20 [.flt .f32 size, .flt .f32 crest, .flt .f32 flow] (lfV size crest flow) := by
  have no : lfG size crest flow = false → lfB size crest flow = false := fun h => by rw [lfB, h]; rfl
  refine Does.of_awp (X := cx 29) Try.func20 rfl (by kernel_rfl) rfl (by simp [cx]) [] rfl ?_
  conv => whnf
  repeat (first
    | (refine ⟨⟨by kernel_rfl, by kernel_rfl⟩, ?_⟩; conv => whnf)
    | (refine And.intro (by first | omega | (simp; done) | (simp; omega)) ?_; conv => whnf)
    | (refine Or.inl (And.intro (by omega) ?_); conv => whnf)
    | (refine Exists.intro _ (And.intro (iLengths) ?_); conv => whnf))
  (refine br_intro (fun g1 => ?_) (fun g1 => ?_) <;> (conv => whnf))
  · have g1 : (above size && above flow) = false := nott1 g1
    have h := no (by rw [lfG]; cases h1 : above size <;> cases h3 : above flow <;> cases fin crest <;> simp_all)
    repeat (first
      | (refine ⟨⟨by kernel_rfl, by kernel_rfl⟩, ?_⟩; conv => whnf)
      | (refine And.intro (by first | omega | (simp; done) | (simp; omega)) ?_; conv => whnf)
      | (refine Or.inl (And.intro (by omega) ?_); conv => whnf)
      | (refine br_intro (fun h => by exfalso; first | (simp at h; done) | (simp at h; omega) | omega) (fun _ => ?_); conv => whnf)
      | (refine br_intro (fun _ => ?_) (fun h => by exfalso; first | (simp at h; done) | (simp at h; omega) | omega); conv => whnf))
    all_goals (try (conv => whnf))
    all_goals (repeat' (first | exact True.intro | (refine And.intro ?_ ?_ <;> (conv => whnf))))
    all_goals (first | rfl | (simp_all [lfV, h]; done) | (simp only [lfV, h, cond_true, cond_false, Bool.and_true, Bool.true_and, Bool.and_false, Bool.false_and]; rfl) | (simp_all [lfV, h]; omega))
  have g1 : (above size && above flow) = true := notf1 g1
  have g3 : above flow = true := by cases h1 : above size <;> cases h3 : above flow <;> simp_all
  have g1 : above size = true := by cases h1 : above size <;> cases h3 : above flow <;> simp_all
  repeat (first
    | (refine ⟨⟨by kernel_rfl, by kernel_rfl⟩, ?_⟩; conv => whnf)
    | (refine And.intro (by first | omega | (simp; done) | (simp; omega)) ?_; conv => whnf)
    | (refine Or.inl (And.intro (by omega) ?_); conv => whnf)
    | (refine Exists.intro _ (And.intro (iIsFinite) ?_); conv => whnf))
  (refine br_intro (fun g2 => ?_) (fun g2 => ?_) <;> (conv => whnf))
  · have g2 : fin crest = false := by simpa using g2
    have h := no (by simp [lfG, g2])
    repeat (first
      | (refine ⟨⟨by kernel_rfl, by kernel_rfl⟩, ?_⟩; conv => whnf)
      | (refine And.intro (by first | omega | (simp; done) | (simp; omega)) ?_; conv => whnf)
      | (refine Or.inl (And.intro (by omega) ?_); conv => whnf)
      | (refine br_intro (fun h => by exfalso; first | (simp at h; done) | (simp at h; omega) | omega) (fun _ => ?_); conv => whnf)
      | (refine br_intro (fun _ => ?_) (fun h => by exfalso; first | (simp at h; done) | (simp at h; omega) | omega); conv => whnf))
    all_goals (try (conv => whnf))
    all_goals (repeat' (first | exact True.intro | (refine And.intro ?_ ?_ <;> (conv => whnf))))
    all_goals (first | rfl | (simp_all [lfV, h]; done) | (simp only [lfV, h, cond_true, cond_false, Bool.and_true, Bool.true_and, Bool.and_false, Bool.false_and]; rfl) | (simp_all [lfV, h]; omega))
  have g2 : fin crest = true := by simpa using g2
  have hp := lf_pw g1 g3
  have hz := zz_of hp.2
  have eB : lfB size crest flow = fin (lfS size crest flow) := by rw [lfB, lfG, g1, g2, g3]; rfl
  unfold lfV
  rw [eB]
  clear eB no g1 g2 g3
  have e1 : Does Try.prog 47 [.flt .f32 (lfQ size flow)] (.flt .f32 (lgF (lfR size flow))) := iLog hp
  have e2 : Does Try.prog 38 [.flt .f32 (lvZ (lgF (lfR size flow)))] (.flt .f32 (exE (lvZ (lgF (lfR size flow))))) := iExpZ hz
  repeat (first
    | (refine ⟨⟨by kernel_rfl, by kernel_rfl⟩, ?_⟩; conv => whnf)
    | (refine And.intro (by first | omega | (simp; done) | (simp; omega)) ?_; conv => whnf)
    | (refine Or.inl (And.intro (by omega) ?_); conv => whnf)
    | (refine Exists.intro _ (And.intro (e1) ?_); conv => whnf)
    | (refine Exists.intro _ (And.intro (e2) ?_); conv => whnf)
    | (refine Exists.intro _ (And.intro (iNumber) ?_); conv => whnf))
  all_goals (try (conv => whnf))
  all_goals (repeat' (first | exact True.intro | (refine And.intro ?_ ?_ <;> (conv => whnf))))
  all_goals (first | rfl | (simp_all []; done) | (simp only [cond_true, cond_false, Bool.and_true, Bool.true_and, Bool.and_false, Bool.false_and]; rfl) | (simp_all []; omega))

theorem lawLevel (size : Nat) (_ : size < 2 ^ 32) (crest : Nat) (_ : crest < 2 ^ 32) (flow : Nat) (_ : flow < 2 ^ 32) : Does Try.prog 6 [.flt .f32 size, .flt .f32 crest, .flt .f32 flow] (.bool true) := by
  have e : ∀ x, Does Try.prog 21 [.flt .f64 x, .flt .f64 x] (.bool true) := fun x => by
    have := @lSameFloat x x
    rwa [sameF_self] at this
  have e1 := @sLevel size crest flow
  have e2 := @iLevel size crest flow
  unfold lfV at e1 e2
  refine Does.of_awp (X := cx 36) Try.func6 rfl (by kernel_rfl) rfl (by simp [cx]) [] rfl ?_
  conv => whnf
  repeat (first
    | (refine ⟨⟨by kernel_rfl, by kernel_rfl⟩, ?_⟩; conv => whnf)
    | (refine And.intro (by first | omega | (simp; done) | (simp; omega)) ?_; conv => whnf)
    | (refine Or.inl (And.intro (by omega) ?_); conv => whnf)
    | (refine br_intro (fun h => by exfalso; first | (simp at h; done) | (simp at h; omega) | omega) (fun _ => ?_); conv => whnf)
    | (refine br_intro (fun _ => ?_) (fun h => by exfalso; first | (simp at h; done) | (simp at h; omega) | omega); conv => whnf)
    | (refine Exists.intro _ (And.intro (e1) ?_); conv => whnf)
    | (refine Exists.intro _ (And.intro (e2) ?_); conv => whnf)
    | (refine Exists.intro _ (And.intro (e _) ?_); conv => whnf))

end Go.Proofs.Ytpelmabholoieaa
