/- What each function of this seat does (Fil). Printed from templates of this seat's own. -/
import Derived.Test.YtngmlbeafdaolaaFal
namespace Go.Proofs.Ytngmlbeafdaolaa
open Go.Ax Go.Bx
set_option maxRecDepth 8000
set_option linter.unusedSimpArgs false
set_option linter.unusedVariables false
abbrev P32 (x : Nat) : Int := pos .f32 x
def infR : Int := ((FloatKind.f32.format.infRung : Nat) : Int)
theorem cmp_num {a b : Nat} (ha : isNaN .f32 a = false) (hb : isNaN .f32 b = false) : FloatKind.f32.format.order a b = some (if P32 a < P32 b then .lt else if P32 a = P32 b then .eq else .gt) := by
  rw [order_num ha hb]; rfl
theorem lss_num {a b : Nat} (ha : isNaN .f32 a = false) (hb : isNaN .f32 b = false) : fcmp .lss .f32 a b = decide (P32 a < P32 b) := by
  unfold fcmp
  rw [cmp_num ha hb]
  by_cases h : P32 a < P32 b
  · rw [if_pos h, decide_eq_true h]; rfl
  · rw [if_neg h, decide_eq_false h]
    by_cases h' : P32 a = P32 b
    · rw [if_pos h']; rfl
    · rw [if_neg h']; rfl
theorem gtr_num {a b : Nat} (ha : isNaN .f32 a = false) (hb : isNaN .f32 b = false) : fcmp .gtr .f32 a b = decide (P32 b < P32 a) := by
  unfold fcmp
  rw [cmp_num ha hb]
  by_cases h : P32 a < P32 b
  · rw [if_pos h, decide_eq_false (by omega)]; rfl
  · rw [if_neg h]
    by_cases h' : P32 a = P32 b
    · rw [if_pos h', decide_eq_false (by omega)]; rfl
    · rw [if_neg h', decide_eq_true (by omega)]; rfl
/-- A word that is a number. -/
def NN (x : Nat) : Prop := isNaN .f32 x = false ∧ x < 2 ^ 32
theorem fmax_num {a b : Nat} (ha : NN a) (hb : NN b) : NN (fmaxA .f32 a b) ∧ P32 a ≤ P32 (fmaxA .f32 a b) ∧ P32 b ≤ P32 (fmaxA .f32 a b) ∧ (P32 (fmaxA .f32 a b) = P32 a ∨ P32 (fmaxA .f32 a b) = P32 b) := by
  unfold fmaxA
  rw [cmp_num ha.1 hb.1]
  by_cases h : P32 a < P32 b
  · rw [if_pos h]; exact ⟨hb, by dsimp only; omega, Int.le_refl _, .inr rfl⟩
  · rw [if_neg h]
    by_cases h' : P32 a = P32 b
    · rw [if_pos h']
      dsimp only
      split
      · exact ⟨hb, by omega, Int.le_refl _, .inr rfl⟩
      · exact ⟨ha, Int.le_refl _, by omega, .inl rfl⟩
    · rw [if_neg h']; exact ⟨ha, Int.le_refl _, by dsimp only; omega, .inl rfl⟩
theorem pos_abs (x : Nat) : P32 x = rungOf FloatKind.f32.format x ∨ P32 x = -(rungOf FloatKind.f32.format x : Int) := by
  unfold P32 pos sg
  split
  · exact .inr rfl
  · exact .inl rfl
theorem NN_ge {x : Nat} (h : NN x) : -infR ≤ P32 x := by
  have h1 : ¬ FloatKind.f32.format.infRung < rungOf FloatKind.f32.format x := fun h' => by
    have := isNaN_iff.2 h'
    rw [h.1] at this; cases this
  unfold infR
  rcases pos_abs x with e | e <;> omega
theorem fin_pos {x : Nat} : fin x = true ↔ -infR < P32 x ∧ P32 x < infR := by
  rw [fin_eq]
  unfold isFin infR
  rw [decide_eq_true_eq]
  rcases pos_abs x with e | e <;> omega
theorem fin_nn {x : Nat} (h : fin x = true) (hx : x < 2 ^ 32) : NN x := by
  rw [fin_eq] at h
  unfold isFin at h
  exact ⟨nan_false (Nat.le_of_lt (of_decide_eq_true h)), hx⟩
theorem pos_word {a b : Nat} (ha : a < 2 ^ 32) (hb : b < 2 ^ 32) (h : P32 a = P32 b) (h0 : P32 a ≠ 0) : a = b := by
  refine pos_inj (f := Ieee.single) ha hb ?_ h
  unfold P32 pos sg at h h0
  change (if negOf Ieee.single a = true then -(rungOf Ieee.single a : Int) else (rungOf Ieee.single a : Int)) = (if negOf Ieee.single b = true then -(rungOf Ieee.single b : Int) else (rungOf Ieee.single b : Int)) at h
  change (if negOf Ieee.single a = true then -(rungOf Ieee.single a : Int) else (rungOf Ieee.single a : Int)) ≠ 0 at h0
  cases ea : negOf Ieee.single a <;> cases eb : negOf Ieee.single b <;> simp only [ea, eb, if_true, if_false, Bool.false_eq_true] at h h0 ⊢
  · omega
  · omega
/-- The edge of a hill. -/
def edB (W H i : Int) : Bool := i % W == 0 || i / W == 0 || i % W == W - 1 || i / W == H - 1
def fhAt (W H : Int) (xs : List Nat) (q : Nat → Int) (i : Nat) : Prop := ∀ k, k < 8 → nbOk W H i k = true → q i ≤ max (q (nbC W i k).toNat) (P32 (xs.getD i 0))
def fhGood (W H : Int) (xs : List Nat) (q : Nat → Int) : Prop := (∀ i : Nat, i < xs.length → edB W H i = true → q i ≤ P32 (xs.getD i 0)) ∧ ∀ i : Nat, i < xs.length → edB W H i = false → fhAt W H xs q i
def fhInv (W H : Int) (xs o : List Nat) : Prop := o.length = xs.length ∧ (∀ i, i < xs.length → NN (o.getD i 0)) ∧ (∀ i : Nat, i < xs.length → edB W H i = true → P32 (o.getD i 0) = P32 (xs.getD i 0)) ∧ (∀ i, i < xs.length → P32 (xs.getD i 0) ≤ P32 (o.getD i 0)) ∧ ∀ q : Nat → Int, fhGood W H xs q → ∀ i, i < xs.length → q i ≤ P32 (o.getD i 0)
def fhFix (W H : Int) (xs o : List Nat) : Prop := fhInv W H xs o ∧ ∀ i : Nat, i < xs.length → edB W H i = false → fhAt W H xs (fun i => P32 (o.getD i 0)) i
/-- A hill whose heights are words of numbers. -/
def HillW (W H : Int) (xs : List Nat) : Prop := hillB W H xs = true ∧ ∀ y ∈ xs, y < 2 ^ 32
theorem HillW.nn {W H : Int} {xs : List Nat} (h : HillW W H xs) {i : Nat} (hi : i < xs.length) : NN (xs.getD i 0) ∧ fin (xs.getD i 0) = true := by
  have h1 : finL xs = true := by
    have := h.1
    simp only [hillB, Bool.and_eq_true] at this
    exact this.2
  have hf := allN_iff.1 h1 i hi
  have hm : xs.getD i 0 ∈ xs := getD_mem hi 0
  exact ⟨fin_nn hf (h.2 _ hm), hf⟩
theorem fh_conn {W H : Int} {xs : List Nat} (hh : HillW W H xs) {q : Nat → Int} (hq : fhGood W H xs q) {M : Int} (hM : ∀ i, i < xs.length → P32 (xs.getD i 0) ≤ M) : ∀ (x i : Nat), i < xs.length → (i : Int) % W = x → q i ≤ M
  | 0, i, hi, e => by
    have : edB W H i = true := by unfold edB; rw [e]; rfl
    have := hq.1 i hi this
    have := hM i hi
    omega
  | x + 1, i, hi, e => by
    obtain ⟨k1, k2, k3, k4, k5, k6, k7⟩ := hill_len hh.1
    cases he : edB W H i with
    | true =>
      have := hq.1 i hi he
      have := hM i hi
      omega
    | false =>
      have hC : Cel W H i := ⟨⟨k1, k2, k3, k4⟩, by omega, by omega⟩
      obtain ⟨f1, f2, f3, f4, f5⟩ := hC.fact
      have hX : nbX W i 6 = i % W - 1 := by show i % W + (-1) = _; omega
      have hY : nbY W i 6 = i / W := by show (i : Int) / W + 0 = _; omega
      have hO : nbOk W H i 6 = true := by
        unfold nbOk inR
        rw [hX, hY]
        simp only [Bool.and_eq_true, decide_eq_true_eq]
        omega
      have hc : nbC W i 6 = (i : Int) - 1 := by
        unfold nbC
        rw [hX, hY]
        have := Int.emod_add_mul_ediv (i : Int) W
        rw [Int.mul_comm] at this
        omega
      have h1 := hq.2 i hi he 6 (by omega) hO
      rw [hc] at h1
      have hpos : 1 ≤ i := by
        rcases Nat.eq_zero_or_pos i with h0 | h0
        · subst h0; simp at e; omega
        · exact h0
      have h2 := fh_conn hh hq hM x (i - 1) (by omega) (by
        rw [show ((i - 1 : Nat) : Int) = (i : Int) - 1 by omega]
        have h3 : ((i : Int) - 1) = (i : Int) / W * W + (x : Int) := by
          have := Int.emod_add_mul_ediv (i : Int) W
          rw [Int.mul_comm] at this
          omega
        rw [h3, Int.add_comm, Int.add_mul_emod_self_right]
        exact Int.emod_eq_of_lt (by omega) (by omega))
      have h3 := hM i hi
      rw [show ((i : Int) - 1).toNat = i - 1 by omega] at h1
      omega
theorem fh_le {W H : Int} {xs : List Nat} (hh : HillW W H xs) {q : Nat → Int} (hq : fhGood W H xs q) {M : Int} (hM : ∀ i, i < xs.length → P32 (xs.getD i 0) ≤ M) {i : Nat} (hi : i < xs.length) : q i ≤ M := by
  obtain ⟨k1, k2, k3, k4, k5, k6, k7⟩ := hill_len hh.1
  exact fh_conn hh hq hM ((i : Int) % W).toNat i hi (by have := Int.emod_nonneg (i : Int) (show W ≠ 0 by omega); omega)
/-! A measure. -/
def wtE (x : Nat) : Nat := (P32 x + infR).toNat
def wtN (o : List Nat) : Nat → Nat
  | 0 => 0
  | k + 1 => wtN o k + wtE (o.getD k 0)
theorem wtN_set {o : List Nat} {i v : Nat} (hi : i < o.length) (hv : wtE v < wtE (o.getD i 0)) : ∀ k, wtN (o.set i v) k ≤ wtN o k ∧ (i < k → wtN (o.set i v) k < wtN o k)
  | 0 => ⟨Nat.le_refl _, fun h => by omega⟩
  | k + 1 => by
    have ih := wtN_set hi hv k
    rw [wtN, wtN, getD_setG _ _ _ _ hi]
    by_cases e : k = i
    · rw [if_pos e]
      subst e
      exact ⟨by omega, fun _ => by omega⟩
    · rw [if_neg e]
      exact ⟨by omega, fun h => by have := ih.2 (by omega); omega⟩
def wt (o : List Nat) : Nat := wtN o o.length
theorem fh_upd {W H : Int} {xs o : List Nat} (h : fhInv W H xs o) {i v : Nat} (hi : i < xs.length) (hv : NN v) (h1 : P32 (xs.getD i 0) ≤ P32 v) (h2 : P32 v < P32 (o.getD i 0)) (h3 : ∀ q : Nat → Int, fhGood W H xs q → q i ≤ P32 v) :
    fhInv W H xs (o.set i v) ∧ wt (o.set i v) < wt o := by
  obtain ⟨g1, g2, g3, g4, g5⟩ := h
  have hi' : i < o.length := by omega
  refine ⟨⟨by simp [g1], fun j hj => ?_, fun j hj he => ?_, fun j hj => ?_, fun q hq j hj => ?_⟩, ?_⟩
  · rw [getD_setG _ _ _ _ hi']; split
    · exact hv
    · exact g2 j hj
  · rw [getD_setG _ _ _ _ hi']; split
    · rename_i e
      subst e
      have := g3 j hj he
      omega
    · exact g3 j hj he
  · rw [getD_setG _ _ _ _ hi']; split
    · rename_i e; subst e; exact h1
    · exact g4 j hj
  · rw [getD_setG _ _ _ _ hi']; split
    · rename_i e; subst e; exact h3 q hq
    · exact g5 q hq j hj
  · unfold wt
    rw [List.length_set]
    refine (wtN_set hi' ?_ _).2 hi'
    have := NN_ge hv
    unfold wtE
    omega
/-! One step of the reference. -/
noncomputable def bsN (W H : Int) (o : List Nat) (i : Nat) : Nat → Nat
  | 0 => o.getD i 0
  | k + 1 => bif nbOk W H i k && fcmp .lss .f32 (o.getD (nbC W i k).toNat 0) (bsN W H o i k) then o.getD (nbC W i k).toNat 0 else bsN W H o i k
theorem bsN_no {W H : Int} {o : List Nat} {i k : Nat} (h : nbOk W H i k = false) : bsN W H o i (k + 1) = bsN W H o i k := by rw [bsN, h]; rfl
theorem bsN_lt {W H : Int} {o : List Nat} {i k : Nat} (h : nbOk W H i k = true) (h2 : fcmp .lss .f32 (o.getD (nbC W i k).toNat 0) (bsN W H o i k) = true) : bsN W H o i (k + 1) = o.getD (nbC W i k).toNat 0 := by rw [bsN, h, h2]; rfl
theorem bsN_ge {W H : Int} {o : List Nat} {i k : Nat} (h : nbOk W H i k = true) (h2 : fcmp .lss .f32 (o.getD (nbC W i k).toNat 0) (bsN W H o i k) = false) : bsN W H o i (k + 1) = bsN W H o i k := by rw [bsN, h, h2]; rfl
theorem nbC_lt {W H : Int} {xs : List Nat} (hh : HillW W H xs) {i k : Nat} (h : nbOk W H i k = true) : 0 ≤ nbC W i k ∧ nbC W i k < xs.length ∧ (nbC W i k).toNat < xs.length := by
  obtain ⟨k1, k2, k3, k4, k5, k6, k7⟩ := hill_len hh.1
  have := nbC_range k1 h
  omega
theorem bsN_spec {W H : Int} {xs o : List Nat} (hh : HillW W H xs) (h : fhInv W H xs o) {i : Nat} (hi : i < xs.length) : ∀ k, k ≤ 8 → NN (bsN W H o i k) ∧ P32 (bsN W H o i k) ≤ P32 (o.getD i 0) ∧ (∀ j, j < k → nbOk W H i j = true → P32 (bsN W H o i k) ≤ P32 (o.getD (nbC W i j).toNat 0)) ∧ (bsN W H o i k = o.getD i 0 ∨ ∃ j, j < k ∧ nbOk W H i j = true ∧ bsN W H o i k = o.getD (nbC W i j).toNat 0)
  | 0, _ => ⟨h.2.1 i hi, Int.le_refl _, fun j hj _ => by omega, .inl rfl⟩
  | k + 1, hk => by
    obtain ⟨g1, g2, g3, g4⟩ := bsN_spec hh h hi k (by omega)
    cases hO : nbOk W H i k with
    | false =>
      rw [bsN_no hO]
      refine ⟨g1, g2, fun j hj hj' => ?_, ?_⟩
      · rcases Nat.lt_or_eq_of_le (show j ≤ k by omega) with e | e
        · exact g3 j e hj'
        · subst e; rw [hO] at hj'; cases hj'
      · rcases g4 with e | ⟨j, e1, e2, e3⟩
        · exact .inl e
        · exact .inr ⟨j, by omega, e2, e3⟩
    | true =>
      obtain ⟨_, _, hc⟩ := nbC_lt hh hO
      have hn := h.2.1 _ hc
      cases hl : fcmp .lss .f32 (o.getD (nbC W i k).toNat 0) (bsN W H o i k) with
      | true =>
        rw [bsN_lt hO hl]
        have hl' : P32 (o.getD (nbC W i k).toNat 0) < P32 (bsN W H o i k) := by rw [lss_num hn.1 g1.1] at hl; exact of_decide_eq_true hl
        refine ⟨hn, by omega, fun j hj hj' => ?_, .inr ⟨k, by omega, hO, rfl⟩⟩
        rcases Nat.lt_or_eq_of_le (show j ≤ k by omega) with e | e
        · have := g3 j e hj'; omega
        · subst e; exact Int.le_refl _
      | false =>
        rw [bsN_ge hO hl]
        have hl' : ¬ P32 (o.getD (nbC W i k).toNat 0) < P32 (bsN W H o i k) := by rw [lss_num hn.1 g1.1] at hl; exact of_decide_eq_false hl
        refine ⟨g1, g2, fun j hj hj' => ?_, ?_⟩
        · rcases Nat.lt_or_eq_of_le (show j ≤ k by omega) with e | e
          · exact g3 j e hj'
          · subst e; omega
        · rcases g4 with e | ⟨j, e1, e2, e3⟩
          · exact .inl e
          · exact .inr ⟨j, by omega, e2, e3⟩
/-- What the reference gives a cell. -/
noncomputable def bsV (W H : Int) (xs o : List Nat) (i : Nat) : Nat := bif fcmp .lss .f32 (bsN W H o i 8) (xs.getD i 0) then xs.getD i 0 else bsN W H o i 8
theorem bsV_spec {W H : Int} {xs o : List Nat} (hh : HillW W H xs) (h : fhInv W H xs o) {i : Nat} (hi : i < xs.length) (he : edB W H i = false) : NN (bsV W H xs o i) ∧ P32 (xs.getD i 0) ≤ P32 (bsV W H xs o i) ∧ (∀ q : Nat → Int, fhGood W H xs q → q i ≤ P32 (bsV W H xs o i)) ∧ (¬ P32 (bsV W H xs o i) < P32 (o.getD i 0) → fhAt W H xs (fun i => P32 (o.getD i 0)) i) := by
  obtain ⟨g1, g2, g3, g4⟩ := bsN_spec hh h hi 8 (Nat.le_refl _)
  have hx := (hh.nn hi).1
  have hV : NN (bsV W H xs o i) ∧ P32 (xs.getD i 0) ≤ P32 (bsV W H xs o i) ∧ P32 (bsN W H o i 8) ≤ P32 (bsV W H xs o i) ∧ (P32 (bsV W H xs o i) = P32 (xs.getD i 0) ∨ P32 (bsV W H xs o i) = P32 (bsN W H o i 8)) := by
    unfold bsV
    rw [lss_num g1.1 hx.1]
    by_cases hl : P32 (bsN W H o i 8) < P32 (xs.getD i 0)
    · rw [decide_eq_true hl, cond_true]; exact ⟨hx, Int.le_refl _, by omega, .inl rfl⟩
    · rw [decide_eq_false hl, cond_false]; exact ⟨g1, by omega, Int.le_refl _, .inr rfl⟩
  obtain ⟨v1, v2, v3, v4⟩ := hV
  refine ⟨v1, v2, fun q hq => ?_, fun hno k hk hO => ?_⟩
  · rcases g4 with e | ⟨j, e1, e2, e3⟩
    · have := h.2.2.2.2 q hq i hi
      rw [e] at v3; omega
    · have h1 := hq.2 i hi he j (by omega) e2
      have h2 := h.2.2.2.2 q hq _ (nbC_lt hh e2).2.2
      rw [e3] at v3
      omega
  · have h1 := g3 k hk hO
    dsimp only
    rcases v4 with e | e <;> omega
/-! The beginning. -/
noncomputable def tpM (xs : List Nat) : Nat → Nat
  | 0 => xs.getD 0 0
  | i + 1 => bif i == 0 then xs.getD 0 0 else fmaxA .f32 (tpM xs i) (xs.getD i 0)
theorem tpM_succ {xs : List Nat} {i : Nat} (h : 1 ≤ i) : tpM xs (i + 1) = fmaxA .f32 (tpM xs i) (xs.getD i 0) := by
  rw [tpM, beq_eq_false_iff_ne.2 (by omega), cond_false]
theorem tpM_spec {W H : Int} {xs : List Nat} (hh : HillW W H xs) : ∀ i, 1 ≤ i → i ≤ xs.length → NN (tpM xs i) ∧ ∀ j, j < i → P32 (xs.getD j 0) ≤ P32 (tpM xs i)
  | 0, h, _ => by omega
  | 1, _, hi => ⟨(hh.nn (i := 0) (by omega)).1, fun j hj => by
      have : j = 0 := by omega
      subst this; exact Int.le_refl _⟩
  | i + 2, _, hi => by
    obtain ⟨g1, g2⟩ := tpM_spec hh (i + 1) (by omega) (by omega)
    rw [tpM_succ (by omega)]
    obtain ⟨m1, m2, m3, _⟩ := fmax_num g1 (hh.nn (i := i + 1) (by omega)).1
    refine ⟨m1, fun j hj => ?_⟩
    rcases Nat.lt_or_eq_of_le (show j ≤ i + 1 by omega) with e | e
    · have := g2 j e; omega
    · subst e; exact m3
def inF (W H : Int) (xs : List Nat) (T : Nat) (i : Nat) : Nat := bif edB W H i then xs.getD i 0 else T
theorem in_inv {W H : Int} {xs : List Nat} (hh : HillW W H xs) {T : Nat} (hT : NN T) (hM : ∀ i, i < xs.length → P32 (xs.getD i 0) ≤ P32 T) : fhInv W H xs (tabN (inF W H xs T) xs.length) := by
  refine ⟨tabN_len _ _, fun i hi => ?_, fun i hi he => ?_, fun i hi => ?_, fun q hq i hi => ?_⟩ <;> rw [tabN_getD _ hi] <;> unfold inF
  · cases edB W H i
    · exact hT
    · exact (hh.nn hi).1
  · rw [he]; rfl
  · cases edB W H i
    · exact hM i hi
    · exact Int.le_refl _
  · cases he : edB W H i
    · exact fh_le hh hq hM hi
    · exact hq.1 i hi he
/-! The end. -/
noncomputable def nzW (x o : Nat) : Nat := bif fcmp .eql .f32 o x then x else bif fcmp .eql .f32 o (canon .f32 0) then canon .f32 0 else o
noncomputable def filR (xs o : List Nat) : List Nat := tabN (fun i => nzW (xs.getD i 0) (o.getD i 0)) xs.length
theorem nn0 : NN (canon .f32 0) := by rw [canon0_32]; exact ⟨by decide +kernel, by decide⟩
theorem pos0 : P32 (canon .f32 0) = 0 := by rw [canon0_32]; exact pos_zero32
theorem nzW_pos {x o : Nat} (hx : NN x) (ho : NN o) : P32 (nzW x o) = P32 o ∧ NN (nzW x o) := by
  unfold nzW
  rw [eql_num ho.1 hx.1, eql_num ho.1 nn0.1]
  by_cases h : pos .f32 o = pos .f32 x
  · rw [decide_eq_true h, cond_true]; exact ⟨h.symm, hx⟩
  · rw [decide_eq_false h, cond_false]
    by_cases h' : pos .f32 o = pos .f32 (canon .f32 0)
    · rw [decide_eq_true h', cond_true]; exact ⟨h'.symm, nn0⟩
    · rw [decide_eq_false h', cond_false]; exact ⟨rfl, ho⟩
theorem nzW_eq {x o o' : Nat} (hx : NN x) (ho : NN o) (ho' : NN o') (h : P32 o = P32 o') : nzW x o = nzW x o' := by
  unfold nzW
  rw [eql_num ho.1 hx.1, eql_num ho.1 nn0.1, eql_num ho'.1 hx.1, eql_num ho'.1 nn0.1]
  have h : pos .f32 o = pos .f32 o' := h
  rw [h]
  by_cases h1 : pos .f32 o' = pos .f32 x
  · rw [decide_eq_true h1]; rfl
  · rw [decide_eq_false h1, cond_false, cond_false]
    by_cases h2 : pos .f32 o' = pos .f32 (canon .f32 0)
    · rw [decide_eq_true h2]; rfl
    · rw [decide_eq_false h2, cond_false, cond_false]
      have h0 : pos .f32 (canon .f32 0) = 0 := pos0
      exact pos_word ho.2 ho'.2 h (by show pos .f32 o ≠ 0; omega)
theorem fhFix_good {W H : Int} {xs o : List Nat} (h : fhFix W H xs o) : fhGood W H xs fun i => P32 (o.getD i 0) :=
  ⟨fun i hi he => Int.le_of_eq (h.1.2.2.1 i hi he), fun i hi he => h.2 i hi he⟩
theorem filR_eq {W H : Int} {xs o o' : List Nat} (hh : HillW W H xs) (h : fhFix W H xs o) (h' : fhFix W H xs o') : filR xs o = filR xs o' := by
  unfold filR
  refine tabN_congr fun i hi => ?_
  refine nzW_eq (hh.nn hi).1 (h.1.2.1 i hi) (h'.1.2.1 i hi) ?_
  have h1 := h.1.2.2.2.2 _ (fhFix_good h') i hi
  have h2 := h'.1.2.2.2.2 _ (fhFix_good h) i hi
  (try dsimp only at h1 h2)
  omega
/-- A hill's filled heights. -/
noncomputable def filW (W H : Int) (xs : List Nat) : List Nat := Classical.epsilon fun l => ∃ o, fhFix W H xs o ∧ l = filR xs o
theorem filW_eq {W H : Int} {xs o : List Nat} (hh : HillW W H xs) (h : fhFix W H xs o) : filR xs o = filW W H xs := by
  have := Classical.epsilon_spec (p := fun l => ∃ o, fhFix W H xs o ∧ l = filR xs o) ⟨_, o, h, rfl⟩
  obtain ⟨o', h', e⟩ := this
  exact (filR_eq hh h h').trans e.symm
theorem filR_hill {W H : Int} {xs o : List Nat} (hh : HillW W H xs) (h : fhFix W H xs o) : HillW W H (filR xs o) := by
  have hl : (filR xs o).length = xs.length := tabN_len _ _
  have h1 := hh.1
  simp only [hillB, Bool.and_eq_true] at h1
  refine ⟨?_, fun y hy => ?_⟩
  · simp only [hillB, Bool.and_eq_true, hl]
    refine ⟨h1.1, ?_⟩
    unfold finL
    rw [allN_iff, hl]
    intro i hi
    unfold filR
    rw [tabN_getD _ hi]
    obtain ⟨e1, e2⟩ := nzW_pos (hh.nn hi).1 (h.1.2.1 i hi)
    rw [fin_pos, e1]
    have g1 := h.1.2.2.2.1 i hi
    have g2 := fh_le hh (fhFix_good h) (M := infR - 1) (fun j hj => by have := (fin_pos.1 (hh.nn hj).2).2; omega) hi
    have g3 := (fin_pos.1 (hh.nn hi).2).1
    (try dsimp only at g2)
    omega
  · obtain ⟨i, hi, rfl⟩ := List.getElem_of_mem hy
    rw [hl] at hi
    have e : (filR xs o)[i] = nzW (xs.getD i 0) (o.getD i 0) := by
      have := tabN_getD (fun i => nzW (xs.getD i 0) (o.getD i 0)) hi (d := 0)
      rw [List.getD_eq_getElem?_getD, List.getElem?_eq_getElem (by rw [tabN_len]; exact hi)] at this
      exact this
    rw [e]
    exact (nzW_pos (hh.nn hi).1 (h.1.2.1 i hi)).2.2
theorem filW_hill {W H : Int} {xs o : List Nat} (hh : HillW W H xs) (h : fhFix W H xs o) : HillW W H (filW W H xs) := by
  rw [← filW_eq hh h]; exact filR_hill hh h
theorem wrN_getD {α : Type} (xs : List α) (f : Nat → α) (d : α) {n i : Nat} (hn : n ≤ xs.length) : (wrN xs f n).getD i d = if i < n then f i else xs.getD i d := by
  rw [List.getD_eq_getElem?_getD, wrN_get xs f n i hn]
  split
  · rfl
  · rw [List.getD_eq_getElem?_getD]
theorem filR_wr {xs o : List Nat} (h : o.length = xs.length) : wrN o (fun i => nzW (xs.getD i 0) (o.getD i 0)) o.length = filR xs o := by
  rw [wrN_all, h]; rfl
theorem wrN_skip {α : Type} {xs : List α} {f : Nat → α} {d : α} {i : Nat} (hi : i < xs.length) (h : f i = xs.getD i d) : wrN xs f i = wrN xs f (i + 1) := by
  rw [wrN, h]
  apply List.ext_getElem
  · simp
  · intro k h1 h2
    rw [List.getElem_set]
    split
    · rename_i e
      subst e
      have := wrN_getD xs f d (n := i) (i := i) (by omega)
      rw [if_neg (by omega), List.getD_eq_getElem?_getD, List.getElem?_eq_getElem h1] at this
      exact this
    · rfl
theorem nbL_ex {W H c : Int} : ∀ {K : Nat} {r : Int × Nat}, r ∈ nbL W H c K → ∃ k, k < K ∧ nbOk W H c k = true ∧ r.1 = nbC W c k
  | 0, r, h => by cases h
  | K + 1, r, h => by
    rw [nbL, List.mem_append] at h
    rcases h with h | h
    · obtain ⟨k, h1, h2, h3⟩ := nbL_ex h
      exact ⟨k, by omega, h2, h3⟩
    · cases hO : nbOk W H c K with
      | true =>
        rw [hO, cond_true, List.mem_singleton] at h
        exact ⟨K, by omega, hO, by rw [h]⟩
      | false => rw [hO, cond_false] at h; cases h
theorem nbL_in {W H c : Int} {k : Nat} (hO : nbOk W H c k = true) : ∀ {K : Nat}, k < K → ∃ r, r ∈ nbL W H c K ∧ r.1 = nbC W c k
  | 0, h => by omega
  | K + 1, h => by
    rw [nbL]
    rcases Nat.lt_or_eq_of_le (show k ≤ K by omega) with h' | h'
    · obtain ⟨r, h1, h2⟩ := nbL_in hO h'
      exact ⟨r, List.mem_append.2 (.inl h1), h2⟩
    · subst h'
      exact ⟨(nbC W c k, farK k), List.mem_append.2 (.inr (by rw [hO, cond_true]; exact List.mem_singleton.2 rfl)), rfl⟩
/-- One step of the program. -/
theorem ow_spec {W H : Int} {xs o : List Nat} (hh : HillW W H xs) (h : fhInv W H xs o) {i : Nat} (hi : i < xs.length) {r : Int × Nat} (hr : r ∈ nbL W H i 8) :
    NN (fmaxA .f32 (o.getD r.1.toNat 0) (xs.getD i 0)) ∧ P32 (xs.getD i 0) ≤ P32 (fmaxA .f32 (o.getD r.1.toNat 0) (xs.getD i 0)) ∧ (∀ q : Nat → Int, fhGood W H xs q → q i ≤ P32 (fmaxA .f32 (o.getD r.1.toNat 0) (xs.getD i 0))) ∧ (¬ P32 (fmaxA .f32 (o.getD r.1.toNat 0) (xs.getD i 0)) < P32 (o.getD i 0) → P32 (o.getD i 0) ≤ max (P32 (o.getD r.1.toNat 0)) (P32 (xs.getD i 0))) := by
  obtain ⟨k, hk, hO, e⟩ := nbL_ex hr
  rw [e]
  have hc := (nbC_lt hh hO).2.2
  obtain ⟨m1, m2, m3, m4⟩ := fmax_num (h.2.1 _ hc) (hh.nn hi).1
  refine ⟨m1, m3, fun q hq => ?_, fun hno => by omega⟩
  cases he : edB W H i with
  | true => have := hq.1 i hi he; omega
  | false =>
    have h1 := hq.2 i hi he k hk hO
    have h2 := h.2.2.2.2 q hq _ hc
    omega
theorem at_of_list {W H : Int} {xs o : List Nat} {i : Nat} (h : ∀ j, j < (nbL W H i 8).length → P32 (o.getD i 0) ≤ max (P32 (o.getD ((nbL W H i 8).getD j RK.nb.z).1.toNat 0)) (P32 (xs.getD i 0))) : fhAt W H xs (fun i => P32 (o.getD i 0)) i := fun k hk hO => by
  obtain ⟨r, h1, h2⟩ := nbL_in hO hk
  obtain ⟨j, hj, e⟩ := List.getElem_of_mem h1
  have := h j hj
  rw [show (nbL W H i 8).getD j RK.nb.z = r from by rw [List.getD_eq_getElem?_getD, List.getElem?_eq_getElem hj]; exact e, h2] at this
  exact this
noncomputable def infW : Nat := fnarrow (canon .f64 9218868437227405312)
theorem infW_nn : NN infW ∧ P32 infW = infR := by
  unfold infW NN infR
  exact ⟨⟨by decide +kernel, by decide +kernel⟩, by decide +kernel⟩
theorem infW_top {W H : Int} {xs : List Nat} (hh : HillW W H xs) {i : Nat} (hi : i < xs.length) : P32 (xs.getD i 0) ≤ P32 infW := by
  rw [infW_nn.2]
  have := (fin_pos.1 (hh.nn hi).2).2
  omega

theorem sEdge {W H c : Int} {xs : List Nat} {t t' : AV} (hc : Cel W H c) : Does Try.prog 71 [.ref [.int .i64 W, .int .i64 H, .sli .f32 xs t] t', .int .i64 c] (.bool (edB W H c)) := by
  obtain ⟨f1, f2, f3, f4, f5⟩ := hc.fact
  have hc' := hc
  obtain ⟨⟨q1, q2, q3, q4⟩, q5, q6⟩ := hc'
  refine Does.of_awp (X := cx 43) Try.func71 rfl (by kernel_rfl) rfl (by simp [cx]) [] rfl ?_
  conv => whnf
  repeat' (first
    | (refine br_intro (fun h => ?_) (fun h => ?_) <;> (conv => whnf))
    | (refine ⟨⟨by kernel_rfl, by kernel_rfl⟩, ?_⟩; conv => whnf)
    | (refine And.intro (by first | omega | (simp; done) | (simp; omega)) ?_; conv => whnf)
    | (refine Or.inl (And.intro (by omega) ?_); conv => whnf))
  all_goals (try (conv => whnf))
  all_goals (repeat' (first | exact True.intro | (refine And.intro ?_ ?_ <;> (conv => whnf))))
  all_goals (first | rfl | (simp_all [edB]; done) | (simp only [edB, cond_true, cond_false, Bool.and_true, Bool.true_and, Bool.and_false, Bool.false_and]; rfl) | (simp_all [edB]; omega))

theorem iEdge {W H c : Int} {xs : List Nat} {t : AV} (hc : Cel W H c) : Does Try.prog 40 [.agg [.int .i64 W, .int .i64 H, .sli .f32 xs t], .int .i64 c] (.bool (edB W H c)) := by
  obtain ⟨f1, f2, f3, f4, f5⟩ := hc.fact
  have hc' := hc
  obtain ⟨⟨q1, q2, q3, q4⟩, q5, q6⟩ := hc'
  refine Does.of_awp (X := cx 35) Try.func40 rfl (by kernel_rfl) rfl (by simp [cx]) [] rfl ?_
  conv => whnf
  repeat' (first
    | (refine br_intro (fun h => ?_) (fun h => ?_) <;> (conv => whnf))
    | (refine ⟨⟨by kernel_rfl, by kernel_rfl⟩, ?_⟩; conv => whnf)
    | (refine And.intro (by first | omega | (simp; done) | (simp; omega)) ?_; conv => whnf)
    | (refine Or.inl (And.intro (by omega) ?_); conv => whnf))
  all_goals (try (conv => whnf))
  all_goals (repeat' (first | exact True.intro | (refine And.intro ?_ ?_ <;> (conv => whnf))))
  all_goals (first | rfl | (simp_all [edB]; done) | (simp only [edB, cond_true, cond_false, Bool.and_true, Bool.true_and, Bool.and_false, Bool.false_and]; rfl) | (simp_all [edB]; omega))

theorem xInf : Does Try.prog 77 [.int .i64 1] (.flt .f64 (canon .f64 9218868437227405312)) := by
  refine Does.of_awp (X := cx 8) Try.func77 rfl (by kernel_rfl) rfl (by simp [cx]) [] rfl ?_
  conv => whnf
  repeat (first
    | (refine ⟨⟨by kernel_rfl, by kernel_rfl⟩, ?_⟩; conv => whnf)
    | (refine And.intro (by first | omega | (simp; done) | (simp; omega)) ?_; conv => whnf)
    | (refine Or.inl (And.intro (by omega) ?_); conv => whnf)
    | (refine br_intro (fun h => by exfalso; first | (simp at h; done) | (simp at h; omega) | omega) (fun _ => ?_); conv => whnf)
    | (refine br_intro (fun _ => ?_) (fun h => by exfalso; first | (simp at h; done) | (simp at h; omega) | omega); conv => whnf)
    | (refine Exists.intro _ (And.intro (xFloat64frombitsK (b := 9218868437227405312) rfl (by decide)) ?_); conv => whnf))
  all_goals (try (conv => whnf))
  all_goals (repeat' (first | exact True.intro | (refine And.intro ?_ ?_ <;> (conv => whnf))))
  all_goals (first | rfl | (simp_all []; done) | (simp only [cond_true, cond_false, Bool.and_true, Bool.true_and, Bool.and_false, Bool.false_and]; rfl) | (simp_all []; omega))

set_option maxHeartbeats 4000000 in
theorem sFill {W H : Int} {xs : List Nat} {t t' : AV} (hh : HillW W H xs) : Does Try.prog 68 [.ref [.int .i64 W, .int .i64 H, .sli .f32 xs t] t'] (.agg [.int .i64 W, .int .i64 H, .own 0 .f32 (filW W H xs)]) := by
  obtain ⟨k1, k2, k3, k4, k5, k6, k7⟩ := hill_len hh.1
  have hn1 : 1 ≤ xs.length := by omega
  have hn : xs.length ≤ 1048576 := by omega
  refine Does.of_awp (X := cx 185) Try.func68 rfl (by kernel_rfl) rfl (by simp [cx]) [152] rfl ?_
  conv => whnf
  repeat (first
    | (refine ⟨⟨by kernel_rfl, by kernel_rfl⟩, ?_⟩; conv => whnf)
    | (refine And.intro (by first | omega | (simp; done) | (simp; omega)) ?_; conv => whnf)
    | (refine Or.inl (And.intro (by omega) ?_); conv => whnf))
  refine ⟨Nat, fun i => 1 ≤ i ∧ i ≤ xs.length, fun i => [(0, .ref [.int .i64 W, .int .i64 H, .sli .f32 xs t] t'), (2, .loc 8 0), (3, .flt .f32 (tpM xs i)), (4, .int .i64 i)], fun i => [(8, .av [.int .i64 0, .int .i64 0, .emp .f32])], fun i => xs.length - i, ⟨1, id, ⟨Nat.le_refl _, hn1⟩, rfl, ⟨rfl, rfl, rfl, rfl, trivial⟩, ⟨rfl, trivial⟩⟩, fun i hi => ?_⟩
  obtain ⟨hi1, hi⟩ := hi
  conv => whnf
  (refine br_intro (fun h => ?_) (fun h => ?_) <;> (conv => whnf))
  · have h : i < xs.length := by simp at h; omega
    repeat (first
      | (refine ⟨⟨by kernel_rfl, by kernel_rfl⟩, ?_⟩; conv => whnf)
      | (refine And.intro (by first | omega | (simp; done) | (simp; omega)) ?_; conv => whnf)
      | (refine Or.inl (And.intro (by omega) ?_); conv => whnf))
    refine ⟨i + 1, id, ⟨⟨by omega, h⟩, by dsimp only; omega⟩, rfl, ⟨rfl, rfl, congrArg (AV.flt .f32) (tpM_succ hi1).symm, rfl, trivial⟩, ⟨rfl, trivial⟩⟩
  have h : i = xs.length := by simp at h; omega
  subst h
  obtain ⟨hT, hM⟩ := tpM_spec hh xs.length hn1 (Nat.le_refl _)
  repeat (first
    | (refine ⟨⟨by kernel_rfl, by kernel_rfl⟩, ?_⟩; conv => whnf)
    | (refine And.intro (by first | omega | (simp; done) | (simp; omega)) ?_; conv => whnf)
    | (refine Or.inl (And.intro (by omega) ?_); conv => whnf)
    | (refine Exists.intro _ (And.intro (sOwn (by first | omega | (simp; done) | (simp; omega))) ?_); conv => whnf))
  refine ⟨Nat, fun i => i ≤ xs.length, fun i => [(0, .ref [.int .i64 W, .int .i64 H, .sli .f32 xs t] t'), (2, .loc 8 0), (3, .flt .f32 (tpM xs xs.length)), (5, .loc 20 0), (6, .int .i64 i)], fun i => [(8, .av [.int .i64 0, .int .i64 0, .emp .f32]), (20, .av [.int .i64 W, .int .i64 H, .osl 152]), (152, .tab .f32 (wrN xs (inF W H xs (tpM xs xs.length)) i))], fun i => xs.length - i, ⟨0, id, Nat.zero_le _, rfl, ⟨rfl, rfl, rfl, rfl, rfl, trivial⟩, ⟨rfl, rfl, rfl, trivial⟩⟩, fun i hi => ?_⟩
  dsimp only at hi
  have hwl := wrN_length xs (inF W H xs (tpM xs xs.length)) i
  conv => whnf
  repeat (first
    | (refine ⟨⟨by kernel_rfl, by kernel_rfl⟩, ?_⟩; conv => whnf)
    | (refine And.intro (by first | omega | (simp; done) | (simp; omega)) ?_; conv => whnf)
    | (refine Or.inl (And.intro (by omega) ?_); conv => whnf))
  (refine br_intro (fun h => ?_) (fun h => ?_) <;> (conv => whnf))
  · have h : i < xs.length := by simp at h; omega
    have hC : Cel W H i := ⟨⟨k1, k2, k3, k4⟩, by omega, by omega⟩
    repeat (first
      | (refine ⟨⟨by kernel_rfl, by kernel_rfl⟩, ?_⟩; conv => whnf)
      | (refine And.intro (by first | omega | (simp; done) | (simp; omega)) ?_; conv => whnf)
      | (refine Or.inl (And.intro (by omega) ?_); conv => whnf)
      | (refine Exists.intro _ (And.intro (sEdge hC) ?_); conv => whnf))
    (refine br_intro (fun h2 => ?_) (fun h2 => ?_) <;> (conv => whnf))
    · have h2 : edB W H i = false := by simpa using h2
      have e : tpM xs xs.length = inF W H xs (tpM xs xs.length) i := by unfold inF; rw [h2]; rfl
      repeat (first
        | (refine ⟨⟨by kernel_rfl, by kernel_rfl⟩, ?_⟩; conv => whnf)
        | (refine And.intro (by first | omega | (simp; done) | (simp; omega)) ?_; conv => whnf)
        | (refine Or.inl (And.intro (by omega) ?_); conv => whnf))
      refine ⟨i + 1, id, ⟨h, by dsimp only; omega⟩, rfl, ⟨rfl, rfl, rfl, rfl, rfl, trivial⟩, ⟨rfl, rfl, congrArg (fun x => KS.live (Blk.tab .f32 ((wrN xs (inF W H xs (tpM xs xs.length)) i).set i x))) e, trivial⟩⟩
    · have h2 : edB W H i = true := by simpa using h2
      have e := wrN_skip (f := inF W H xs (tpM xs xs.length)) (d := 0) h (by unfold inF; rw [h2]; rfl)
      repeat (first
        | (refine ⟨⟨by kernel_rfl, by kernel_rfl⟩, ?_⟩; conv => whnf)
        | (refine And.intro (by first | omega | (simp; done) | (simp; omega)) ?_; conv => whnf)
        | (refine Or.inl (And.intro (by omega) ?_); conv => whnf))
      refine ⟨i + 1, id, ⟨h, by dsimp only; omega⟩, rfl, ⟨rfl, rfl, rfl, rfl, rfl, trivial⟩, ⟨rfl, rfl, congrArg (fun l => KS.live (Blk.tab .f32 l)) e, trivial⟩⟩
  have h : i = xs.length := by simp at h; omega
  subst h
  have hI0 : fhInv W H xs (wrN xs (inF W H xs (tpM xs xs.length)) xs.length) := by rw [wrN_all]; exact in_inv hh hT hM
  repeat (first
    | (refine ⟨⟨by kernel_rfl, by kernel_rfl⟩, ?_⟩; conv => whnf)
    | (refine And.intro (by first | omega | (simp; done) | (simp; omega)) ?_; conv => whnf)
    | (refine Or.inl (And.intro (by omega) ?_); conv => whnf))
  refine ⟨List Nat × Bool, fun p => fhInv W H xs p.1 ∧ (p.2 = false → fhFix W H xs p.1), fun p => [(0, .ref [.int .i64 W, .int .i64 H, .sli .f32 xs t] t'), (2, .loc 8 0), (5, .loc 20 0), (7, .bool p.2)], fun p => [(8, .av [.int .i64 0, .int .i64 0, .emp .f32]), (20, .av [.int .i64 W, .int .i64 H, .osl 152]), (152, .tab .f32 p.1)], fun p => 2 * wt p.1 + (bif p.2 then 1 else 0), ⟨(wrN xs (inF W H xs (tpM xs xs.length)) xs.length, true), id, ⟨hI0, fun e => by cases e⟩, rfl, ⟨rfl, rfl, rfl, rfl, trivial⟩, ⟨rfl, rfl, rfl, trivial⟩⟩, fun p hp => ?_⟩
  obtain ⟨o0, c0⟩ := p
  obtain ⟨hI, hF⟩ := hp
  dsimp only at hI hF
  clear hI0 hT hM hwl
  conv => whnf
  (refine br_intro (fun hc => ?_) (fun hc => ?_) <;> (conv => whnf))
  · have hc : c0 = true := hc
    subst hc
    repeat (first
      | (refine ⟨⟨by kernel_rfl, by kernel_rfl⟩, ?_⟩; conv => whnf)
      | (refine And.intro (by first | omega | (simp; done) | (simp; omega)) ?_; conv => whnf)
      | (refine Or.inl (And.intro (by omega) ?_); conv => whnf))
    refine ⟨List Nat × Bool × Nat, fun q => fhInv W H xs q.1 ∧ q.2.2 ≤ xs.length ∧ (q.2.1 = true → wt q.1 < wt o0) ∧ (q.2.1 = false → q.1 = o0 ∧ ∀ j : Nat, j < q.2.2 → edB W H j = false → fhAt W H xs (fun i => P32 (o0.getD i 0)) j), fun q => [(0, .ref [.int .i64 W, .int .i64 H, .sli .f32 xs t] t'), (2, .loc 8 0), (5, .loc 20 0), (7, .bool q.2.1), (8, .int .i64 q.2.2)], fun q => [(8, .av [.int .i64 0, .int .i64 0, .emp .f32]), (20, .av [.int .i64 W, .int .i64 H, .osl 152]), (152, .tab .f32 q.1)], fun q => xs.length - q.2.2, ⟨(o0, false, 0), id, ⟨hI, Nat.zero_le _, (fun e => by cases e), fun _ => ⟨rfl, fun j hj => by dsimp only at hj; omega⟩⟩, rfl, ⟨rfl, rfl, rfl, rfl, rfl, trivial⟩, ⟨rfl, rfl, rfl, trivial⟩⟩, fun q hq => ?_⟩
    obtain ⟨o, ch, i⟩ := q
    obtain ⟨hJ, hi, hw1, hw2⟩ := hq
    dsimp only at hJ hi hw1 hw2
    have hol := hJ.1
    conv => whnf
    repeat (first
      | (refine ⟨⟨by kernel_rfl, by kernel_rfl⟩, ?_⟩; conv => whnf)
      | (refine And.intro (by first | omega | (simp; done) | (simp; omega)) ?_; conv => whnf)
      | (refine Or.inl (And.intro (by omega) ?_); conv => whnf))
    (refine br_intro (fun h => ?_) (fun h => ?_) <;> (conv => whnf))
    · have h : i < xs.length := by simp at h; omega
      have hC : Cel W H i := ⟨⟨k1, k2, k3, k4⟩, by omega, by omega⟩
      repeat (first
        | (refine ⟨⟨by kernel_rfl, by kernel_rfl⟩, ?_⟩; conv => whnf)
        | (refine And.intro (by first | omega | (simp; done) | (simp; omega)) ?_; conv => whnf)
        | (refine Or.inl (And.intro (by omega) ?_); conv => whnf)
        | (refine Exists.intro _ (And.intro (sEdge hC) ?_); conv => whnf))
      (refine br_intro (fun he => ?_) (fun he => ?_) <;> (conv => whnf))
      · have he : edB W H i = true := he
        repeat (first
          | (refine ⟨⟨by kernel_rfl, by kernel_rfl⟩, ?_⟩; conv => whnf)
          | (refine And.intro (by first | omega | (simp; done) | (simp; omega)) ?_; conv => whnf)
          | (refine Or.inl (And.intro (by omega) ?_); conv => whnf))
        refine ⟨(o, ch, i + 1), id, ⟨⟨hJ, h, hw1, fun e => ⟨(hw2 e).1, fun j hj hj' => ?_⟩⟩, by dsimp only; omega⟩, rfl, ⟨rfl, rfl, rfl, rfl, rfl, trivial⟩, ⟨rfl, rfl, rfl, trivial⟩⟩
        rcases Nat.lt_or_eq_of_le (show j ≤ i from Nat.le_of_lt_succ hj) with h' | h'
        · exact (hw2 e).2 j h' hj'
        · subst h'; rw [he] at hj'; cases hj'
      · have he : edB W H i = false := he
        obtain ⟨b1, b2, b3, b4⟩ := bsV_spec hh hJ h he
        repeat (first
          | (refine ⟨⟨by kernel_rfl, by kernel_rfl⟩, ?_⟩; conv => whnf)
          | (refine And.intro (by first | omega | (simp; done) | (simp; omega)) ?_; conv => whnf)
          | (refine Or.inl (And.intro (by omega) ?_); conv => whnf)
          | (refine Exists.intro _ (And.intro (sNear hC) ?_); conv => whnf))
        refine ⟨Nat, fun k => k ≤ 8, fun k => [(0, .ref [.int .i64 W, .int .i64 H, .sli .f32 xs t] t'), (2, .loc 8 0), (5, .loc 20 0), (7, .bool ch), (8, .int .i64 i), (9, .osl 320), (10, .flt .f32 (bsN W H o i k)), (11, .int .i64 k)], fun k => [(8, .av [.int .i64 0, .int .i64 0, .emp .f32]), (20, .av [.int .i64 W, .int .i64 H, .osl 152]), (152, .tab .f32 o), (320, .tab (.int .i64) (nearL W H i))], fun k => 8 - k, ⟨0, id, Nat.zero_le _, rfl, ⟨rfl, rfl, rfl, rfl, rfl, rfl, rfl, rfl, trivial⟩, ⟨rfl, rfl, rfl, rfl, trivial⟩⟩, fun k hk => ?_⟩
        dsimp only at hk
        conv => whnf
        (refine br_intro (fun h2 => ?_) (fun h2 => ?_) <;> (conv => whnf))
        · have h2 : k < 8 := by simp at h2; omega
          have hlN : (nearL W H i).length = 8 := tabN_len _ _
          have hg : (nearL W H i).getD (k : Int).toNat (RK.int .i64).z = nbAt W H i k := nearL_getD h2
          cases hO : nbOk W H i k with
          | false =>
            have hg' := hg
            rw [nbAt_neg hO] at hg'
            have eB := bsN_no (o := o) hO
            repeat (first
              | (refine ⟨⟨by kernel_rfl, by kernel_rfl⟩, ?_⟩; conv => whnf)
              | (refine And.intro (by first | omega | (simp; done) | (simp; omega)) ?_; conv => whnf)
              | (refine Or.inl (And.intro (by omega) ?_); conv => whnf))
            (refine br_intro (fun h3 => ?_) (fun h3 => ?_) <;> (conv => whnf))
            · exfalso
              have h3 : decide ((nearL W H i).getD (k : Int).toNat (RK.int .i64).z ≥ 0) = true := h3
              rw [hg'] at h3; simp at h3
            · repeat (first
                | (refine ⟨⟨by kernel_rfl, by kernel_rfl⟩, ?_⟩; conv => whnf)
                | (refine And.intro (by first | omega | (simp; done) | (simp; omega)) ?_; conv => whnf)
                | (refine Or.inl (And.intro (by omega) ?_); conv => whnf))
              refine ⟨k + 1, id, ⟨h2, by dsimp only; omega⟩, rfl, ⟨rfl, rfl, rfl, rfl, rfl, rfl, congrArg (AV.flt .f32) eB.symm, rfl, trivial⟩, ⟨rfl, rfl, rfl, rfl, trivial⟩⟩
          | true =>
            obtain ⟨r1, r2, r3⟩ := nbC_lt hh hO
            have hg' := hg
            rw [nbAt_pos hO] at hg'
            repeat (first
              | (refine ⟨⟨by kernel_rfl, by kernel_rfl⟩, ?_⟩; conv => whnf)
              | (refine And.intro (by first | omega | (simp; done) | (simp; omega)) ?_; conv => whnf)
              | (refine Or.inl (And.intro (by omega) ?_); conv => whnf))
            (refine br_intro (fun h3 => ?_) (fun h3 => ?_) <;> (conv => whnf))
            · repeat (first
                | (refine ⟨⟨by kernel_rfl, by kernel_rfl⟩, ?_⟩; conv => whnf)
                | (refine And.intro (by first | omega | (simp; done) | (simp; omega)) ?_; conv => whnf)
                | (refine Or.inl (And.intro (by omega) ?_); conv => whnf))
              (refine br_intro (fun h4 => ?_) (fun h4 => ?_) <;> (conv => whnf))
              · have h4 : fcmp .lss .f32 (o.getD ((nearL W H i).getD (k : Int).toNat (RK.int .i64).z).toNat 0) (bsN W H o i k) = true := h4
                rw [hg'] at h4
                have eB : o.getD ((nearL W H i).getD (k : Int).toNat (RK.int .i64).z).toNat 0 = bsN W H o i (k + 1) := by rw [hg']; exact (bsN_lt hO h4).symm
                repeat (first
                  | (refine ⟨⟨by kernel_rfl, by kernel_rfl⟩, ?_⟩; conv => whnf)
                  | (refine And.intro (by first | omega | (simp; done) | (simp; omega)) ?_; conv => whnf)
                  | (refine Or.inl (And.intro (by omega) ?_); conv => whnf))
                refine ⟨k + 1, id, ⟨h2, by dsimp only; omega⟩, rfl, ⟨rfl, rfl, rfl, rfl, rfl, rfl, congrArg (AV.flt .f32) eB, rfl, trivial⟩, ⟨rfl, rfl, rfl, rfl, trivial⟩⟩
              · have h4 : fcmp .lss .f32 (o.getD ((nearL W H i).getD (k : Int).toNat (RK.int .i64).z).toNat 0) (bsN W H o i k) = false := h4
                rw [hg'] at h4
                have eB := bsN_ge hO h4
                repeat (first
                  | (refine ⟨⟨by kernel_rfl, by kernel_rfl⟩, ?_⟩; conv => whnf)
                  | (refine And.intro (by first | omega | (simp; done) | (simp; omega)) ?_; conv => whnf)
                  | (refine Or.inl (And.intro (by omega) ?_); conv => whnf))
                refine ⟨k + 1, id, ⟨h2, by dsimp only; omega⟩, rfl, ⟨rfl, rfl, rfl, rfl, rfl, rfl, congrArg (AV.flt .f32) eB.symm, rfl, trivial⟩, ⟨rfl, rfl, rfl, rfl, trivial⟩⟩
            · exfalso
              have h3 : decide ((nearL W H i).getD (k : Int).toNat (RK.int .i64).z ≥ 0) = false := h3
              rw [hg'] at h3; simp at h3; omega
        have h2 : k = 8 := by simp at h2; omega
        subst h2
        repeat (first
          | (refine ⟨⟨by kernel_rfl, by kernel_rfl⟩, ?_⟩; conv => whnf)
          | (refine And.intro (by first | omega | (simp; done) | (simp; omega)) ?_; conv => whnf)
          | (refine Or.inl (And.intro (by omega) ?_); conv => whnf))
        (refine br_intro (fun h6 => ?_) (fun h6 => ?_) <;> (conv => whnf))
        · have h6 : fcmp .lss .f32 (bsN W H o i 8) (xs.getD i 0) = true := h6
          have eV : bsV W H xs o i = xs.getD i 0 := by rw [bsV, h6]; rfl
          rw [eV] at b1 b2 b3 b4
          repeat (first
            | (refine ⟨⟨by kernel_rfl, by kernel_rfl⟩, ?_⟩; conv => whnf)
            | (refine And.intro (by first | omega | (simp; done) | (simp; omega)) ?_; conv => whnf)
            | (refine Or.inl (And.intro (by omega) ?_); conv => whnf))
          (refine br_intro (fun h7 => ?_) (fun h7 => ?_) <;> (conv => whnf))
          · have h7 : fcmp .lss .f32 (xs.getD i 0) (o.getD i 0) = true := h7
            rw [lss_num b1.1 (hJ.2.1 i h).1] at h7
            have h7 := of_decide_eq_true h7
            obtain ⟨u1, u2⟩ := fh_upd hJ h b1 b2 h7 b3
            have hwo : wt o ≤ wt o0 := by
              cases ch
              · rw [(hw2 rfl).1]; exact Nat.le_refl _
              · exact Nat.le_of_lt (hw1 rfl)
            repeat (first
              | (refine ⟨⟨by kernel_rfl, by kernel_rfl⟩, ?_⟩; conv => whnf)
              | (refine And.intro (by first | omega | (simp; done) | (simp; omega)) ?_; conv => whnf)
              | (refine Or.inl (And.intro (by omega) ?_); conv => whnf))
            refine ⟨(o.set i (xs.getD i 0), true, i + 1), id, ⟨⟨u1, h, fun _ => Nat.lt_of_lt_of_le u2 hwo, fun e => by cases e⟩, by dsimp only; omega⟩, rfl, ⟨rfl, rfl, rfl, rfl, rfl, trivial⟩, ⟨rfl, rfl, rfl, trivial⟩⟩
          · have h7 : fcmp .lss .f32 (xs.getD i 0) (o.getD i 0) = false := h7
            rw [lss_num b1.1 (hJ.2.1 i h).1] at h7
            have b5 := b4 (of_decide_eq_false h7)
            repeat (first
              | (refine ⟨⟨by kernel_rfl, by kernel_rfl⟩, ?_⟩; conv => whnf)
              | (refine And.intro (by first | omega | (simp; done) | (simp; omega)) ?_; conv => whnf)
              | (refine Or.inl (And.intro (by omega) ?_); conv => whnf))
            refine ⟨(o, ch, i + 1), id, ⟨⟨hJ, h, hw1, fun e => ⟨(hw2 e).1, fun j hj hj' => ?_⟩⟩, by dsimp only; omega⟩, rfl, ⟨rfl, rfl, rfl, rfl, rfl, trivial⟩, ⟨rfl, rfl, rfl, trivial⟩⟩
            rcases Nat.lt_or_eq_of_le (show j ≤ i from Nat.le_of_lt_succ hj) with h' | h'
            · exact (hw2 e).2 j h' hj'
            · subst h'; rw [← (hw2 e).1]; exact b5
        · have h6 : fcmp .lss .f32 (bsN W H o i 8) (xs.getD i 0) = false := h6
          have eV : bsV W H xs o i = bsN W H o i 8 := by rw [bsV, h6]; rfl
          rw [eV] at b1 b2 b3 b4
          repeat (first
            | (refine ⟨⟨by kernel_rfl, by kernel_rfl⟩, ?_⟩; conv => whnf)
            | (refine And.intro (by first | omega | (simp; done) | (simp; omega)) ?_; conv => whnf)
            | (refine Or.inl (And.intro (by omega) ?_); conv => whnf))
          (refine br_intro (fun h7 => ?_) (fun h7 => ?_) <;> (conv => whnf))
          · have h7 : fcmp .lss .f32 (bsN W H o i 8) (o.getD i 0) = true := h7
            rw [lss_num b1.1 (hJ.2.1 i h).1] at h7
            have h7 := of_decide_eq_true h7
            obtain ⟨u1, u2⟩ := fh_upd hJ h b1 b2 h7 b3
            have hwo : wt o ≤ wt o0 := by
              cases ch
              · rw [(hw2 rfl).1]; exact Nat.le_refl _
              · exact Nat.le_of_lt (hw1 rfl)
            repeat (first
              | (refine ⟨⟨by kernel_rfl, by kernel_rfl⟩, ?_⟩; conv => whnf)
              | (refine And.intro (by first | omega | (simp; done) | (simp; omega)) ?_; conv => whnf)
              | (refine Or.inl (And.intro (by omega) ?_); conv => whnf))
            refine ⟨(o.set i (bsN W H o i 8), true, i + 1), id, ⟨⟨u1, h, fun _ => Nat.lt_of_lt_of_le u2 hwo, fun e => by cases e⟩, by dsimp only; omega⟩, rfl, ⟨rfl, rfl, rfl, rfl, rfl, trivial⟩, ⟨rfl, rfl, rfl, trivial⟩⟩
          · have h7 : fcmp .lss .f32 (bsN W H o i 8) (o.getD i 0) = false := h7
            rw [lss_num b1.1 (hJ.2.1 i h).1] at h7
            have b5 := b4 (of_decide_eq_false h7)
            repeat (first
              | (refine ⟨⟨by kernel_rfl, by kernel_rfl⟩, ?_⟩; conv => whnf)
              | (refine And.intro (by first | omega | (simp; done) | (simp; omega)) ?_; conv => whnf)
              | (refine Or.inl (And.intro (by omega) ?_); conv => whnf))
            refine ⟨(o, ch, i + 1), id, ⟨⟨hJ, h, hw1, fun e => ⟨(hw2 e).1, fun j hj hj' => ?_⟩⟩, by dsimp only; omega⟩, rfl, ⟨rfl, rfl, rfl, rfl, rfl, trivial⟩, ⟨rfl, rfl, rfl, trivial⟩⟩
            rcases Nat.lt_or_eq_of_le (show j ≤ i from Nat.le_of_lt_succ hj) with h' | h'
            · exact (hw2 e).2 j h' hj'
            · subst h'; rw [← (hw2 e).1]; exact b5
    · have h : i = xs.length := by simp at h; omega
      subst h
      repeat (first
        | (refine ⟨⟨by kernel_rfl, by kernel_rfl⟩, ?_⟩; conv => whnf)
        | (refine And.intro (by first | omega | (simp; done) | (simp; omega)) ?_; conv => whnf)
        | (refine Or.inl (And.intro (by omega) ?_); conv => whnf))
      refine ⟨(o, ch), id, ⟨⟨hJ, fun e => ⟨hJ, fun j hj hj' => ?_⟩⟩, ?_⟩, rfl, ⟨rfl, rfl, rfl, rfl, trivial⟩, ⟨rfl, rfl, rfl, trivial⟩⟩
      · have := (hw2 e).2 j hj hj'
        rw [(hw2 e).1]; exact this
      · dsimp only
        cases ch
        · rw [(hw2 rfl).1, cond_true, cond_false]; omega
        · have := hw1 rfl
          rw [cond_true]; omega
  have hc : c0 = false := hc
  subst hc
  have hX := hF rfl
  have hol := hX.1.1
  rw [← filW_eq hh hX, ← filR_wr hol]
  clear hF hI
  repeat (first
    | (refine ⟨⟨by kernel_rfl, by kernel_rfl⟩, ?_⟩; conv => whnf)
    | (refine And.intro (by first | omega | (simp; done) | (simp; omega)) ?_; conv => whnf)
    | (refine Or.inl (And.intro (by omega) ?_); conv => whnf))
  refine ⟨Nat, fun i => i ≤ o0.length, fun i => [(0, .ref [.int .i64 W, .int .i64 H, .sli .f32 xs t] t'), (2, .loc 8 0), (5, .loc 20 0), (12, .int .i64 i)], fun i => [(8, .av [.int .i64 0, .int .i64 0, .emp .f32]), (20, .av [.int .i64 W, .int .i64 H, .osl 152]), (152, .tab .f32 (wrN o0 (fun i => nzW (xs.getD i 0) (o0.getD i 0)) i))], fun i => o0.length - i, ⟨0, id, Nat.zero_le _, rfl, ⟨rfl, rfl, rfl, rfl, trivial⟩, ⟨rfl, rfl, rfl, trivial⟩⟩, fun i hi => ?_⟩
  dsimp only at hi
  have hwl := wrN_length o0 (fun i => nzW (xs.getD i 0) (o0.getD i 0)) i
  conv => whnf
  (refine br_intro (fun h => ?_) (fun h => ?_) <;> (conv => whnf))
  · have h : i < o0.length := by simp at h; omega
    have eG : (wrN o0 (fun i => nzW (xs.getD i 0) (o0.getD i 0)) i).getD (i : Int).toNat RK.f32.z = o0.getD i 0 := by
      show (wrN o0 (fun i => nzW (xs.getD i 0) (o0.getD i 0)) i).getD i 0 = _
      rw [wrN_getD _ _ _ hi, if_neg (by omega)]
    repeat (first
      | (refine ⟨⟨by kernel_rfl, by kernel_rfl⟩, ?_⟩; conv => whnf)
      | (refine And.intro (by first | omega | (simp; done) | (simp; omega)) ?_; conv => whnf)
      | (refine Or.inl (And.intro (by omega) ?_); conv => whnf))
    (refine br_intro (fun h2 => ?_) (fun h2 => ?_) <;> (conv => whnf))
    · have h2 : fcmp .eql .f32 ((wrN o0 (fun i => nzW (xs.getD i 0) (o0.getD i 0)) i).getD (i : Int).toNat RK.f32.z) (xs.getD i 0) = true := h2
      rw [eG] at h2
      have eV : xs.getD i 0 = nzW (xs.getD i 0) (o0.getD i 0) := by rw [nzW, h2]; rfl
      repeat (first
        | (refine ⟨⟨by kernel_rfl, by kernel_rfl⟩, ?_⟩; conv => whnf)
        | (refine And.intro (by first | omega | (simp; done) | (simp; omega)) ?_; conv => whnf)
        | (refine Or.inl (And.intro (by omega) ?_); conv => whnf))
      refine ⟨i + 1, id, ⟨h, by dsimp only; omega⟩, rfl, ⟨rfl, rfl, rfl, rfl, trivial⟩, ⟨rfl, rfl, congrArg (fun x => KS.live (Blk.tab .f32 ((wrN o0 (fun i => nzW (xs.getD i 0) (o0.getD i 0)) i).set i x))) eV, trivial⟩⟩
    · have h2 : fcmp .eql .f32 ((wrN o0 (fun i => nzW (xs.getD i 0) (o0.getD i 0)) i).getD (i : Int).toNat RK.f32.z) (xs.getD i 0) = false := h2
      rw [eG] at h2
      repeat (first
        | (refine ⟨⟨by kernel_rfl, by kernel_rfl⟩, ?_⟩; conv => whnf)
        | (refine And.intro (by first | omega | (simp; done) | (simp; omega)) ?_; conv => whnf)
        | (refine Or.inl (And.intro (by omega) ?_); conv => whnf))
      (refine br_intro (fun h3 => ?_) (fun h3 => ?_) <;> (conv => whnf))
      · have h3 : fcmp .eql .f32 ((wrN o0 (fun i => nzW (xs.getD i 0) (o0.getD i 0)) i).getD (i : Int).toNat RK.f32.z) (canon .f32 0) = true := h3
        rw [eG] at h3
        have eV : canon .f32 0 = nzW (xs.getD i 0) (o0.getD i 0) := by rw [nzW, h2, h3]; rfl
        repeat (first
          | (refine ⟨⟨by kernel_rfl, by kernel_rfl⟩, ?_⟩; conv => whnf)
          | (refine And.intro (by first | omega | (simp; done) | (simp; omega)) ?_; conv => whnf)
          | (refine Or.inl (And.intro (by omega) ?_); conv => whnf))
        refine ⟨i + 1, id, ⟨h, by dsimp only; omega⟩, rfl, ⟨rfl, rfl, rfl, rfl, trivial⟩, ⟨rfl, rfl, congrArg (fun x => KS.live (Blk.tab .f32 ((wrN o0 (fun i => nzW (xs.getD i 0) (o0.getD i 0)) i).set i x))) eV, trivial⟩⟩
      · have h3 : fcmp .eql .f32 ((wrN o0 (fun i => nzW (xs.getD i 0) (o0.getD i 0)) i).getD (i : Int).toNat RK.f32.z) (canon .f32 0) = false := h3
        rw [eG] at h3
        have e := wrN_skip (f := fun i => nzW (xs.getD i 0) (o0.getD i 0)) (d := 0) h (by (try dsimp only); rw [nzW, h2, h3]; rfl)
        repeat (first
          | (refine ⟨⟨by kernel_rfl, by kernel_rfl⟩, ?_⟩; conv => whnf)
          | (refine And.intro (by first | omega | (simp; done) | (simp; omega)) ?_; conv => whnf)
          | (refine Or.inl (And.intro (by omega) ?_); conv => whnf))
        refine ⟨i + 1, id, ⟨h, by dsimp only; omega⟩, rfl, ⟨rfl, rfl, rfl, rfl, trivial⟩, ⟨rfl, rfl, congrArg (fun l => KS.live (Blk.tab .f32 l)) e, trivial⟩⟩
  · have h : i = o0.length := by simp at h; omega
    subst h
    repeat (first
      | (refine ⟨⟨by kernel_rfl, by kernel_rfl⟩, ?_⟩; conv => whnf)
      | (refine And.intro (by first | omega | (simp; done) | (simp; omega)) ?_; conv => whnf)
      | (refine Or.inl (And.intro (by omega) ?_); conv => whnf))
    all_goals (try (conv => whnf))
    all_goals (repeat' (first | exact True.intro | (refine And.intro ?_ ?_ <;> (conv => whnf))))
    all_goals (first | rfl | (simp_all []; done) | (simp only [cond_true, cond_false, Bool.and_true, Bool.true_and, Bool.and_false, Bool.false_and]; rfl) | (simp_all []; omega))

theorem wt_le {o0 o : List Nat} {ch : Bool} (h1 : ch = true → wt o < wt o0) (h2 : ch = false → o = o0) : wt o ≤ wt o0 := by
  cases ch
  · rw [h2 rfl]; exact Nat.le_refl _
  · exact Nat.le_of_lt (h1 rfl)
/-- There is a filled hill. -/
theorem fh_ex' {W H : Int} {xs : List Nat} (hh : HillW W H xs) : ∀ (n : Nat) (o : List Nat), fhInv W H xs o → wt o ≤ n → ∃ o', fhFix W H xs o' := by
  intro n
  induction n with
  | zero =>
    intro o h hw
    refine ⟨o, h, fun i hi he k hk hO => ?_⟩
    obtain ⟨r, hr, e⟩ := nbL_in hO hk
    obtain ⟨v1, v2, v3, v4⟩ := ow_spec hh h hi hr
    rw [e] at v1 v2 v3 v4
    refine v4 fun hlt => ?_
    have := (fh_upd h hi v1 v2 hlt v3).2
    omega
  | succ n ih =>
    intro o h hw
    by_cases hall : fhFix W H xs o
    · exact ⟨o, hall⟩
    · have : ∃ i k, i < xs.length ∧ k < 8 ∧ nbOk W H i k = true ∧ ¬ P32 (o.getD i 0) ≤ max (P32 (o.getD (nbC W i k).toNat 0)) (P32 (xs.getD i 0)) := by
        apply Classical.byContradiction
        intro hno
        refine hall ⟨h, fun i hi he k hk hO => ?_⟩
        apply Classical.byContradiction
        intro hno'
        exact hno ⟨i, k, hi, hk, hO, hno'⟩
      obtain ⟨i, k, hi, hk, hO, hno⟩ := this
      obtain ⟨r, hr, e⟩ := nbL_in hO hk
      obtain ⟨v1, v2, v3, v4⟩ := ow_spec hh h hi hr
      rw [e] at v1 v2 v3 v4
      have hlt : P32 (fmaxA .f32 (o.getD (nbC W i k).toNat 0) (xs.getD i 0)) < P32 (o.getD i 0) := by
        apply Classical.byContradiction
        intro hn
        exact hno (v4 hn)
      obtain ⟨u1, u2⟩ := fh_upd h hi v1 v2 hlt v3
      exact ih _ u1 (by omega)
theorem fh_ex {W H : Int} {xs : List Nat} (hh : HillW W H xs) : ∃ o, fhFix W H xs o :=
  fh_ex' hh _ _ (in_inv hh infW_nn.1 fun i hi => infW_top hh hi) (Nat.le_refl _)
theorem filW_ok {W H : Int} {xs : List Nat} (hh : HillW W H xs) : HillW W H (filW W H xs) ∧ (filW W H xs).length = xs.length := by
  obtain ⟨o, h⟩ := fh_ex hh
  exact ⟨filW_hill hh h, by rw [← filW_eq hh h]; exact tabN_len _ _⟩
theorem gt_not {x o : Nat} (hx : NN x) (ho : NN o) (hle : P32 x ≤ P32 o) (h : fcmp .gtr .f32 o x = false) : x = nzW x o := by
  rw [gtr_num ho.1 hx.1] at h
  have h := of_decide_eq_false h
  have e : pos .f32 o = pos .f32 x := by show P32 o = P32 x; omega
  rw [nzW, eql_num ho.1 hx.1, decide_eq_true e]; rfl
theorem gt_yes {x o : Nat} (hx : NN x) (ho : NN o) (h : fcmp .gtr .f32 o x = true) : nzW x o = bif fcmp .eql .f32 o (canon .f32 0) then canon .f32 0 else o := by
  rw [gtr_num ho.1 hx.1] at h
  have h := of_decide_eq_true h
  have e : ¬ pos .f32 o = pos .f32 x := by
    intro e
    have e : P32 o = P32 x := e
    omega
  rw [nzW, eql_num ho.1 hx.1, decide_eq_false e, cond_false]

set_option maxHeartbeats 4000000 in
theorem iFilled {W H : Int} {xs : List Nat} {t : AV} (hh : HillW W H xs) : Does Try.prog 48 [.agg [.int .i64 W, .int .i64 H, .sli .f32 xs t]] (.agg [.int .i64 W, .int .i64 H, .own 0 .f32 (filW W H xs)]) := by
  obtain ⟨k1, k2, k3, k4, k5, k6, k7⟩ := hill_len hh.1
  have hn : xs.length ≤ 1048576 := by omega
  refine Does.of_awp (X := cx 115) Try.func48 rfl (by kernel_rfl) rfl (by simp [cx]) [72] rfl ?_
  conv => whnf
  repeat (first
    | (refine ⟨⟨by kernel_rfl, by kernel_rfl⟩, ?_⟩; conv => whnf)
    | (refine And.intro (by first | omega | (simp; done) | (simp; omega)) ?_; conv => whnf)
    | (refine Or.inl (And.intro (by omega) ?_); conv => whnf))
  refine ⟨Nat, fun i => i ≤ xs.length, fun i => [(1, .loc 4 0), (2, .loc 8 0), (3, .loc 12 0), (21, .sli .f32 xs t), (22, .int .i64 xs.length), (23, .int .i64 i)], fun i => [(4, .av [.int .i64 W, .int .i64 H, .sli .f32 xs t]), (8, .av [.int .i64 0, .int .i64 0, .emp .f32]), (12, .av [.int .i64 W, .int .i64 H, .osl 72]), (72, .tab .f32 (tabN (inF W H xs infW) i))], fun i => xs.length - i, ⟨0, id, Nat.zero_le _, rfl, ⟨rfl, rfl, rfl, rfl, rfl, rfl, trivial⟩, ⟨rfl, rfl, rfl, rfl, trivial⟩⟩, fun i hi => ?_⟩
  dsimp only at hi
  have htl := tabN_len (inF W H xs infW) i
  conv => whnf
  (refine br_intro (fun h => ?_) (fun h => ?_) <;> (conv => whnf))
  · have h : i < xs.length := by simp at h; omega
    have hC : Cel W H i := ⟨⟨k1, k2, k3, k4⟩, by omega, by omega⟩
    repeat (first
      | (refine ⟨⟨by kernel_rfl, by kernel_rfl⟩, ?_⟩; conv => whnf)
      | (refine And.intro (by first | omega | (simp; done) | (simp; omega)) ?_; conv => whnf)
      | (refine Or.inl (And.intro (by omega) ?_); conv => whnf)
      | (refine Exists.intro _ (And.intro (iEdge hC) ?_); conv => whnf))
    (refine br_intro (fun h2 => ?_) (fun h2 => ?_) <;> (conv => whnf))
    · have h2 : edB W H i = false := by simpa using h2
      have e : fnarrow (canon .f64 9218868437227405312) = inF W H xs infW i := by unfold inF infW; rw [h2, cond_false]
      repeat (first
        | (refine ⟨⟨by kernel_rfl, by kernel_rfl⟩, ?_⟩; conv => whnf)
        | (refine And.intro (by first | omega | (simp; done) | (simp; omega)) ?_; conv => whnf)
        | (refine Or.inl (And.intro (by omega) ?_); conv => whnf)
        | (refine Exists.intro _ (And.intro (xInf) ?_); conv => whnf))
      refine And.intro (by decide +kernel) ?_
      conv => whnf
      repeat (first
        | (refine ⟨⟨by kernel_rfl, by kernel_rfl⟩, ?_⟩; conv => whnf)
        | (refine And.intro (by first | omega | (simp; done) | (simp; omega)) ?_; conv => whnf)
        | (refine Or.inl (And.intro (by omega) ?_); conv => whnf))
      refine ⟨i + 1, ren [(72, 152)], ⟨h, by dsimp only; omega⟩, rfl, ⟨rfl, rfl, rfl, rfl, rfl, rfl, trivial⟩, ⟨rfl, rfl, rfl, congrArg (fun x => KS.live (Blk.tab .f32 (tabN (inF W H xs infW) i ++ [x]))) e, trivial⟩⟩
    · have h2 : edB W H i = true := by simpa using h2
      have e : xs.getD i 0 = inF W H xs infW i := by unfold inF; rw [h2]; rfl
      repeat (first
        | (refine ⟨⟨by kernel_rfl, by kernel_rfl⟩, ?_⟩; conv => whnf)
        | (refine And.intro (by first | omega | (simp; done) | (simp; omega)) ?_; conv => whnf)
        | (refine Or.inl (And.intro (by omega) ?_); conv => whnf))
      refine ⟨i + 1, ren [(72, 152)], ⟨h, by dsimp only; omega⟩, rfl, ⟨rfl, rfl, rfl, rfl, rfl, rfl, trivial⟩, ⟨rfl, rfl, rfl, congrArg (fun x => KS.live (Blk.tab .f32 (tabN (inF W H xs infW) i ++ [x]))) e, trivial⟩⟩
  have h : i = xs.length := by simp at h; omega
  subst h
  have hI0 : fhInv W H xs (tabN (inF W H xs infW) xs.length) := in_inv hh infW_nn.1 fun i hi => infW_top hh hi
  repeat (first
    | (refine ⟨⟨by kernel_rfl, by kernel_rfl⟩, ?_⟩; conv => whnf)
    | (refine And.intro (by first | omega | (simp; done) | (simp; omega)) ?_; conv => whnf)
    | (refine Or.inl (And.intro (by omega) ?_); conv => whnf))
  refine ⟨List Nat × Bool, fun p => fhInv W H xs p.1 ∧ (p.2 = false → fhFix W H xs p.1), fun p => [(1, .loc 4 0), (2, .loc 8 0), (3, .loc 12 0), (6, .bool p.2)], fun p => [(4, .av [.int .i64 W, .int .i64 H, .sli .f32 xs t]), (8, .av [.int .i64 0, .int .i64 0, .emp .f32]), (12, .av [.int .i64 W, .int .i64 H, .osl 72]), (72, .tab .f32 p.1)], fun p => 2 * wt p.1 + (bif p.2 then 1 else 0), ⟨(tabN (inF W H xs infW) xs.length, true), id, ⟨hI0, fun e => by cases e⟩, rfl, ⟨rfl, rfl, rfl, rfl, trivial⟩, ⟨rfl, rfl, rfl, rfl, trivial⟩⟩, fun p hp => ?_⟩
  obtain ⟨o0, c0⟩ := p
  obtain ⟨hI, hF⟩ := hp
  dsimp only at hI hF
  clear hI0 htl
  conv => whnf
  (refine br_intro (fun hc => ?_) (fun hc => ?_) <;> (conv => whnf))
  · have hc : c0 = true := hc
    subst hc
    repeat (first
      | (refine ⟨⟨by kernel_rfl, by kernel_rfl⟩, ?_⟩; conv => whnf)
      | (refine And.intro (by first | omega | (simp; done) | (simp; omega)) ?_; conv => whnf)
      | (refine Or.inl (And.intro (by omega) ?_); conv => whnf))
    refine ⟨List Nat × Bool × Nat, fun q => fhInv W H xs q.1 ∧ q.2.2 ≤ xs.length ∧ (q.2.1 = true → wt q.1 < wt o0) ∧ (q.2.1 = false → q.1 = o0 ∧ ∀ j : Nat, j < q.2.2 → fhAt W H xs (fun i => P32 (o0.getD i 0)) j), fun q => [(1, .loc 4 0), (2, .loc 8 0), (3, .loc 12 0), (6, .bool q.2.1), (43, .sli .f32 xs t), (44, .int .i64 xs.length), (45, .int .i64 q.2.2)], fun q => [(4, .av [.int .i64 W, .int .i64 H, .sli .f32 xs t]), (8, .av [.int .i64 0, .int .i64 0, .emp .f32]), (12, .av [.int .i64 W, .int .i64 H, .osl 72]), (72, .tab .f32 q.1)], fun q => xs.length - q.2.2, ⟨(o0, false, 0), id, ⟨hI, Nat.zero_le _, (fun e => by cases e), fun _ => ⟨rfl, fun j hj => by dsimp only at hj; omega⟩⟩, rfl, ⟨rfl, rfl, rfl, rfl, rfl, rfl, rfl, trivial⟩, ⟨rfl, rfl, rfl, rfl, trivial⟩⟩, fun q hq => ?_⟩
    obtain ⟨o, ch, i⟩ := q
    obtain ⟨hJ, hi, hw1, hw2⟩ := hq
    dsimp only at hJ hi hw1 hw2
    conv => whnf
    (refine br_intro (fun h => ?_) (fun h => ?_) <;> (conv => whnf))
    · have h : i < xs.length := by simp at h; omega
      have hC : Cel W H i := ⟨⟨k1, k2, k3, k4⟩, by omega, by omega⟩
      have hlen := nbL_len W H i 8
      repeat (first
        | (refine ⟨⟨by kernel_rfl, by kernel_rfl⟩, ?_⟩; conv => whnf)
        | (refine And.intro (by first | omega | (simp; done) | (simp; omega)) ?_; conv => whnf)
        | (refine Or.inl (And.intro (by omega) ?_); conv => whnf)
        | (refine Exists.intro _ (And.intro (iNbrs hC) ?_); conv => whnf))
      refine ⟨List Nat × Bool × Nat, fun q => fhInv W H xs q.1 ∧ q.2.2 ≤ (nbL W H i 8).length ∧ (q.2.1 = true → wt q.1 < wt o0) ∧ (q.2.1 = false → q.1 = o0 ∧ (∀ j : Nat, j < i → fhAt W H xs (fun i => P32 (o0.getD i 0)) j) ∧ ∀ j : Nat, j < q.2.2 → P32 (o0.getD i 0) ≤ max (P32 (o0.getD ((nbL W H i 8).getD j RK.nb.z).1.toNat 0)) (P32 (xs.getD i 0))), fun q => [(1, .loc 4 0), (2, .loc 8 0), (3, .loc 12 0), (6, .bool q.2.1), (7, .int .i64 i), (8, .flt .f32 (xs.getD i 0)), (43, .sli .f32 xs t), (44, .int .i64 xs.length), (45, .int .i64 i), (52, .osl 208), (53, .int .i64 (nbL W H i 8).length), (54, .int .i64 q.2.2)], fun q => [(4, .av [.int .i64 W, .int .i64 H, .sli .f32 xs t]), (8, .av [.int .i64 0, .int .i64 0, .emp .f32]), (12, .av [.int .i64 W, .int .i64 H, .osl 72]), (72, .tab .f32 q.1), (208, .tab .nb (nbL W H i 8))], fun q => (nbL W H i 8).length - q.2.2, ⟨(o, ch, 0), id, ⟨hJ, Nat.zero_le _, hw1, fun e => ⟨(hw2 e).1, (hw2 e).2, fun j hj => by dsimp only at hj; omega⟩⟩, rfl, ⟨rfl, rfl, rfl, rfl, rfl, rfl, rfl, rfl, rfl, rfl, rfl, rfl, trivial⟩, ⟨rfl, rfl, rfl, rfl, rfl, trivial⟩⟩, fun q hq => ?_⟩
      clear hJ hw1 hw2
      obtain ⟨o, ch, j⟩ := q
      obtain ⟨hJ, hj, hw1, hw2⟩ := hq
      dsimp only at hJ hj hw1 hw2
      have hol := hJ.1
      conv => whnf
      (refine br_intro (fun h2 => ?_) (fun h2 => ?_) <;> (conv => whnf))
      · have h2 : j < (nbL W H i 8).length := by simp at h2; omega
        have hm : (nbL W H i 8).getD j RK.nb.z ∈ nbL W H i 8 := getD_mem h2 _
        have hr : 0 ≤ ((nbL W H i 8).getD (j : Int).toNat RK.nb.z).1 ∧ ((nbL W H i 8).getD (j : Int).toNat RK.nb.z).1 < W * H := nbL_mem k1 hm
        obtain ⟨v1, v2, v3, v4⟩ := ow_spec hh hJ h hm
        have hr2 := hr
        have hm2 : j < (nbL W H i 8).length := h2
        simp at hr2 hm2
        repeat (first
          | (refine ⟨⟨by kernel_rfl, by kernel_rfl⟩, ?_⟩; conv => whnf)
          | (refine And.intro (by first | omega | (simp; done) | (simp; omega)) ?_; conv => whnf)
          | (refine Or.inl (And.intro (by omega) ?_); conv => whnf))
        (refine br_intro (fun h5 => ?_) (fun h5 => ?_) <;> (conv => whnf))
        · have h5 : fcmp .lss .f32 (fmaxA .f32 (o.getD ((nbL W H i 8).getD j RK.nb.z).1.toNat 0) (xs.getD i 0)) (o.getD i 0) = true := h5
          rw [lss_num v1.1 (hJ.2.1 i h).1] at h5
          have h5 := of_decide_eq_true h5
          obtain ⟨u1, u2⟩ := fh_upd hJ h v1 v2 h5 v3
          have hwo := wt_le hw1 fun e => (hw2 e).1
          repeat (first
            | (refine ⟨⟨by kernel_rfl, by kernel_rfl⟩, ?_⟩; conv => whnf)
            | (refine And.intro (by first | omega | (simp; done) | (simp; omega)) ?_; conv => whnf)
            | (refine Or.inl (And.intro (by omega) ?_); conv => whnf))
          refine ⟨(o.set i (fmaxA .f32 (o.getD ((nbL W H i 8).getD j RK.nb.z).1.toNat 0) (xs.getD i 0)), true, j + 1), id, ⟨⟨u1, h2, fun _ => Nat.lt_of_lt_of_le u2 hwo, fun e => by cases e⟩, by dsimp only; omega⟩, rfl, ⟨rfl, rfl, rfl, rfl, rfl, rfl, rfl, rfl, rfl, rfl, rfl, rfl, trivial⟩, ⟨rfl, rfl, rfl, rfl, rfl, trivial⟩⟩
        · have h5 : fcmp .lss .f32 (fmaxA .f32 (o.getD ((nbL W H i 8).getD j RK.nb.z).1.toNat 0) (xs.getD i 0)) (o.getD i 0) = false := h5
          rw [lss_num v1.1 (hJ.2.1 i h).1] at h5
          have b5 := v4 (of_decide_eq_false h5)
          repeat (first
            | (refine ⟨⟨by kernel_rfl, by kernel_rfl⟩, ?_⟩; conv => whnf)
            | (refine And.intro (by first | omega | (simp; done) | (simp; omega)) ?_; conv => whnf)
            | (refine Or.inl (And.intro (by omega) ?_); conv => whnf))
          refine ⟨(o, ch, j + 1), id, ⟨⟨hJ, h2, hw1, fun e => ⟨(hw2 e).1, (hw2 e).2.1, fun j' hj' => ?_⟩⟩, by dsimp only; omega⟩, rfl, ⟨rfl, rfl, rfl, rfl, rfl, rfl, rfl, rfl, rfl, rfl, rfl, rfl, trivial⟩, ⟨rfl, rfl, rfl, rfl, rfl, trivial⟩⟩
          rcases Nat.lt_or_eq_of_le (show j' ≤ j from Nat.le_of_lt_succ hj') with h' | h'
          · exact (hw2 e).2.2 j' h'
          · subst h'; rw [← (hw2 e).1]; exact b5
      · have h2 : j = (nbL W H i 8).length := by simp at h2; omega
        subst h2
        repeat (first
          | (refine ⟨⟨by kernel_rfl, by kernel_rfl⟩, ?_⟩; conv => whnf)
          | (refine And.intro (by first | omega | (simp; done) | (simp; omega)) ?_; conv => whnf)
          | (refine Or.inl (And.intro (by omega) ?_); conv => whnf))
        refine ⟨(o, ch, i + 1), id, ⟨⟨hJ, h, hw1, fun e => ⟨(hw2 e).1, fun j hj => ?_⟩⟩, by dsimp only; omega⟩, rfl, ⟨rfl, rfl, rfl, rfl, rfl, rfl, rfl, trivial⟩, ⟨rfl, rfl, rfl, rfl, trivial⟩⟩
        rcases Nat.lt_or_eq_of_le (show j ≤ i from Nat.le_of_lt_succ hj) with h' | h'
        · exact (hw2 e).2.1 j h'
        · subst h'; exact at_of_list (hw2 e).2.2
    · have h : i = xs.length := by simp at h; omega
      subst h
      repeat (first
        | (refine ⟨⟨by kernel_rfl, by kernel_rfl⟩, ?_⟩; conv => whnf)
        | (refine And.intro (by first | omega | (simp; done) | (simp; omega)) ?_; conv => whnf)
        | (refine Or.inl (And.intro (by omega) ?_); conv => whnf))
      refine ⟨(o, ch), id, ⟨⟨hJ, fun e => ⟨hJ, fun j hj _ => ?_⟩⟩, ?_⟩, rfl, ⟨rfl, rfl, rfl, rfl, trivial⟩, ⟨rfl, rfl, rfl, rfl, trivial⟩⟩
      · have := (hw2 e).2 j hj
        rw [(hw2 e).1]; exact this
      · dsimp only
        cases ch
        · rw [(hw2 rfl).1, cond_true, cond_false]; omega
        · have := hw1 rfl
          rw [cond_true]; omega
  have hc : c0 = false := hc
  subst hc
  have hX := hF rfl
  have hol := hX.1.1
  rw [← filW_eq hh hX, ← filR_wr hol]
  clear hF hI
  repeat (first
    | (refine ⟨⟨by kernel_rfl, by kernel_rfl⟩, ?_⟩; conv => whnf)
    | (refine And.intro (by first | omega | (simp; done) | (simp; omega)) ?_; conv => whnf)
    | (refine Or.inl (And.intro (by omega) ?_); conv => whnf))
  refine ⟨Nat, fun i => i ≤ xs.length, fun i => [(1, .loc 4 0), (2, .loc 8 0), (3, .loc 12 0), (81, .sli .f32 xs t), (82, .int .i64 xs.length), (83, .int .i64 i)], fun i => [(4, .av [.int .i64 W, .int .i64 H, .sli .f32 xs t]), (8, .av [.int .i64 0, .int .i64 0, .emp .f32]), (12, .av [.int .i64 W, .int .i64 H, .osl 72]), (72, .tab .f32 (wrN o0 (fun i => nzW (xs.getD i 0) (o0.getD i 0)) i))], fun i => xs.length - i, ⟨0, id, Nat.zero_le _, rfl, ⟨rfl, rfl, rfl, rfl, rfl, rfl, trivial⟩, ⟨rfl, rfl, rfl, rfl, trivial⟩⟩, fun i hi => ?_⟩
  dsimp only at hi
  have hwl := wrN_length o0 (fun i => nzW (xs.getD i 0) (o0.getD i 0)) i
  conv => whnf
  (refine br_intro (fun h => ?_) (fun h => ?_) <;> (conv => whnf))
  · have h : i < xs.length := by simp at h; omega
    have hx := (hh.nn h).1
    have ho := hX.1.2.1 i h
    have eG : (wrN o0 (fun i => nzW (xs.getD i 0) (o0.getD i 0)) i).getD (i : Int).toNat RK.f32.z = o0.getD i 0 := by
      show (wrN o0 (fun i => nzW (xs.getD i 0) (o0.getD i 0)) i).getD i 0 = _
      rw [wrN_getD _ _ _ (by omega), if_neg (by omega)]
    repeat (first
      | (refine ⟨⟨by kernel_rfl, by kernel_rfl⟩, ?_⟩; conv => whnf)
      | (refine And.intro (by first | omega | (simp; done) | (simp; omega)) ?_; conv => whnf)
      | (refine Or.inl (And.intro (by omega) ?_); conv => whnf))
    (refine br_intro (fun h2 => ?_) (fun h2 => ?_) <;> (conv => whnf))
    · have h2 : (!(fcmp .gtr .f32 ((wrN o0 (fun i => nzW (xs.getD i 0) (o0.getD i 0)) i).getD (i : Int).toNat RK.f32.z) (xs.getD i 0))) = true := h2
      rw [eG] at h2
      have eV := gt_not hx ho (hX.1.2.2.2.1 i h) (by simpa using h2)
      repeat (first
        | (refine ⟨⟨by kernel_rfl, by kernel_rfl⟩, ?_⟩; conv => whnf)
        | (refine And.intro (by first | omega | (simp; done) | (simp; omega)) ?_; conv => whnf)
        | (refine Or.inl (And.intro (by omega) ?_); conv => whnf))
      refine ⟨i + 1, id, ⟨h, by dsimp only; omega⟩, rfl, ⟨rfl, rfl, rfl, rfl, rfl, rfl, trivial⟩, ⟨rfl, rfl, rfl, congrArg (fun x => KS.live (Blk.tab .f32 ((wrN o0 (fun i => nzW (xs.getD i 0) (o0.getD i 0)) i).set i x))) eV, trivial⟩⟩
    · have h2 : (!(fcmp .gtr .f32 ((wrN o0 (fun i => nzW (xs.getD i 0) (o0.getD i 0)) i).getD (i : Int).toNat RK.f32.z) (xs.getD i 0))) = false := h2
      rw [eG] at h2
      have eN := gt_yes hx ho (by simpa using h2)
      repeat (first
        | (refine ⟨⟨by kernel_rfl, by kernel_rfl⟩, ?_⟩; conv => whnf)
        | (refine And.intro (by first | omega | (simp; done) | (simp; omega)) ?_; conv => whnf)
        | (refine Or.inl (And.intro (by omega) ?_); conv => whnf))
      (refine br_intro (fun h3 => ?_) (fun h3 => ?_) <;> (conv => whnf))
      · have h3 : fcmp .eql .f32 ((wrN o0 (fun i => nzW (xs.getD i 0) (o0.getD i 0)) i).getD (i : Int).toNat RK.f32.z) (canon .f32 0) = true := h3
        rw [eG] at h3
        have eV : canon .f32 0 = nzW (xs.getD i 0) (o0.getD i 0) := by rw [eN, h3]; rfl
        repeat (first
          | (refine ⟨⟨by kernel_rfl, by kernel_rfl⟩, ?_⟩; conv => whnf)
          | (refine And.intro (by first | omega | (simp; done) | (simp; omega)) ?_; conv => whnf)
          | (refine Or.inl (And.intro (by omega) ?_); conv => whnf))
        refine ⟨i + 1, id, ⟨h, by dsimp only; omega⟩, rfl, ⟨rfl, rfl, rfl, rfl, rfl, rfl, trivial⟩, ⟨rfl, rfl, rfl, congrArg (fun x => KS.live (Blk.tab .f32 ((wrN o0 (fun i => nzW (xs.getD i 0) (o0.getD i 0)) i).set i x))) eV, trivial⟩⟩
      · have h3 : fcmp .eql .f32 ((wrN o0 (fun i => nzW (xs.getD i 0) (o0.getD i 0)) i).getD (i : Int).toNat RK.f32.z) (canon .f32 0) = false := h3
        rw [eG] at h3
        have e := wrN_skip (xs := o0) (i := i) (f := fun i => nzW (xs.getD i 0) (o0.getD i 0)) (d := 0) (by omega) (by (try dsimp only); rw [eN, h3]; rfl)
        repeat (first
          | (refine ⟨⟨by kernel_rfl, by kernel_rfl⟩, ?_⟩; conv => whnf)
          | (refine And.intro (by first | omega | (simp; done) | (simp; omega)) ?_; conv => whnf)
          | (refine Or.inl (And.intro (by omega) ?_); conv => whnf))
        refine ⟨i + 1, id, ⟨h, by dsimp only; omega⟩, rfl, ⟨rfl, rfl, rfl, rfl, rfl, rfl, trivial⟩, ⟨rfl, rfl, rfl, congrArg (fun l => KS.live (Blk.tab .f32 l)) e, trivial⟩⟩
  · have h : i = xs.length := by simp at h; omega
    subst h
    rw [hol]
    repeat (first
      | (refine ⟨⟨by kernel_rfl, by kernel_rfl⟩, ?_⟩; conv => whnf)
      | (refine And.intro (by first | omega | (simp; done) | (simp; omega)) ?_; conv => whnf)
      | (refine Or.inl (And.intro (by omega) ?_); conv => whnf))
    all_goals (try (conv => whnf))
    all_goals (repeat' (first | exact True.intro | (refine And.intro ?_ ?_ <;> (conv => whnf))))
    all_goals (first | rfl | (simp_all []; done) | (simp only [cond_true, cond_false, Bool.and_true, Bool.true_and, Bool.and_false, Bool.false_and]; rfl) | (simp_all []; omega))

noncomputable def filO (W H : Int) (xs : List Nat) : List Nat := bif hillB W H xs then filW W H xs else []
noncomputable def filV (W H : Int) (xs : List Nat) : AV := .tup [.agg [.int .i64 (selI (hillB W H xs) W), .int .i64 (selI (hillB W H xs) H), .own 0 .f32 (filO W H xs)], .bool (hillB W H xs)]
theorem filO_len {W H : Int} {xs : List Nat} (h : ∀ y ∈ xs, y < 2 ^ 32) : (filO W H xs).length ≤ 256 := by
  unfold filO
  cases h1 : hillB W H xs
  · exact Nat.zero_le _
  · have := hill_len h1
    have := (filW_ok ⟨h1, h⟩).2
    rw [cond_true]; omega

theorem iFillHill {W H : Int} {xs : List Nat} {t : AV} (hl : ∀ y ∈ xs, y < 2 ^ 32) (hn : xs.length ≤ 1048576) : Does Try.prog 17 [.agg [.int .i64 W, .int .i64 H, .sli .f32 xs t]] (filV W H xs) := by
  refine Does.of_awp (X := cx 13) Try.func17 rfl (by kernel_rfl) rfl (by simp [cx]) [36] rfl ?_
  conv => whnf
  repeat (first
    | (refine ⟨⟨by kernel_rfl, by kernel_rfl⟩, ?_⟩; conv => whnf)
    | (refine And.intro (by first | omega | (simp; done) | (simp; omega)) ?_; conv => whnf)
    | (refine Or.inl (And.intro (by omega) ?_); conv => whnf)
    | (refine Exists.intro _ (And.intro (iIs (by first | omega | (simp; done) | (simp; omega))) ?_); conv => whnf))
  (refine br_intro (fun g1 => ?_) (fun g1 => ?_) <;> (conv => whnf))
  · have g1 : hillB W H xs = false := by simpa using g1
    all_goals (try (conv => whnf))
    all_goals (repeat' (first | exact True.intro | (refine And.intro ?_ ?_ <;> (conv => whnf))))
    all_goals (first | rfl | (simp_all [filV, filO, selI]; done) | (simp only [filV, filO, selI, cond_true, cond_false, Bool.and_true, Bool.true_and, Bool.and_false, Bool.false_and]; rfl) | (simp_all [filV, filO, selI]; omega))
  have g1 : hillB W H xs = true := by simpa using g1
  have hh : HillW W H xs := ⟨g1, hl⟩
  obtain ⟨w1, w2⟩ := filW_ok hh
  have e : ∀ t, Does Try.prog 47 [.agg [.int .i64 W, .int .i64 H, .sli .f32 (filW W H xs) t]] (.tup [.agg [.int .i64 W, .int .i64 H, .sli .f32 (filW W H xs) t], .bool true]) := fun t => iGive (by omega) w1.1
  repeat (first
    | (refine ⟨⟨by kernel_rfl, by kernel_rfl⟩, ?_⟩; conv => whnf)
    | (refine And.intro (by first | omega | (simp; done) | (simp; omega)) ?_; conv => whnf)
    | (refine Or.inl (And.intro (by omega) ?_); conv => whnf)
    | (refine Exists.intro _ (And.intro (iFilled hh) ?_); conv => whnf)
    | (refine Exists.intro _ (And.intro (e _) ?_); conv => whnf))
  all_goals (try (conv => whnf))
  all_goals (repeat' (first | exact True.intro | (refine And.intro ?_ ?_ <;> (conv => whnf))))
  all_goals (first | rfl | (simp_all [filV, filO, selI]; done) | (simp only [filV, filO, selI, cond_true, cond_false, Bool.and_true, Bool.true_and, Bool.and_false, Bool.false_and]; rfl) | (simp_all [filV, filO, selI]; omega))

noncomputable def hoN (xs f : List Nat) : Nat → Nat
  | 0 => canon .f32 0
  | i + 1 => fop .add .f32 (hoN xs f i) (fop .sub .f32 (f.getD i 0) (xs.getD i 0))
noncomputable def hoB (W H : Int) (xs : List Nat) : Bool := hillB W H xs && fin (hoN xs (filW W H xs) xs.length)
noncomputable def hoV (W H : Int) (xs : List Nat) : AV := .tup [.flt .f32 (bif hoB W H xs then hoN xs (filW W H xs) xs.length else canon .f32 0), .bool (hoB W H xs)]

theorem iNumber {x : Nat} : Does Try.prog 49 [.flt .f32 x] (.tup [.flt .f32 (bif fin x then x else canon .f32 0), .bool (fin x)]) := by
  refine Does.of_awp (X := cx 8) Try.func49 rfl (by kernel_rfl) rfl (by simp [cx]) [] rfl ?_
  conv => whnf
  repeat' (first
    | (refine br_intro (fun h => ?_) (fun h => ?_) <;> (conv => whnf))
    | (refine ⟨⟨by kernel_rfl, by kernel_rfl⟩, ?_⟩; conv => whnf)
    | (refine And.intro (by first | omega | (simp; done) | (simp; omega)) ?_; conv => whnf)
    | (refine Or.inl (And.intro (by omega) ?_); conv => whnf)
    | (refine Exists.intro _ (And.intro (iIsFinite) ?_); conv => whnf))
  all_goals (try (conv => whnf))
  all_goals (repeat' (first | exact True.intro | (refine And.intro ?_ ?_ <;> (conv => whnf))))
  all_goals (first | rfl | (simp_all []; done) | (simp only [cond_true, cond_false, Bool.and_true, Bool.true_and, Bool.and_false, Bool.false_and]; rfl) | (simp_all []; omega))

theorem iHollow {W H : Int} {xs : List Nat} {t : AV} (hl : ∀ y ∈ xs, y < 2 ^ 32) (hn : xs.length ≤ 1048576) : Does Try.prog 18 [.agg [.int .i64 W, .int .i64 H, .sli .f32 xs t]] (hoV W H xs) := by
  refine Does.of_awp (X := cx 33) Try.func18 rfl (by kernel_rfl) rfl (by simp [cx]) [] rfl ?_
  conv => whnf
  repeat (first
    | (refine ⟨⟨by kernel_rfl, by kernel_rfl⟩, ?_⟩; conv => whnf)
    | (refine And.intro (by first | omega | (simp; done) | (simp; omega)) ?_; conv => whnf)
    | (refine Or.inl (And.intro (by omega) ?_); conv => whnf)
    | (refine Exists.intro _ (And.intro (iIs (by first | omega | (simp; done) | (simp; omega))) ?_); conv => whnf))
  (refine br_intro (fun g1 => ?_) (fun g1 => ?_) <;> (conv => whnf))
  · have g1 : hillB W H xs = false := by simpa using g1
    have eB : hoB W H xs = false := by rw [hoB, g1]; rfl
    all_goals (try (conv => whnf))
    all_goals (repeat' (first | exact True.intro | (refine And.intro ?_ ?_ <;> (conv => whnf))))
    all_goals (first | rfl | (simp_all [hoV, eB]; done) | (simp only [hoV, eB, cond_true, cond_false, Bool.and_true, Bool.true_and, Bool.and_false, Bool.false_and]; rfl) | (simp_all [hoV, eB]; omega))
  have g1 : hillB W H xs = true := by simpa using g1
  have hh : HillW W H xs := ⟨g1, hl⟩
  obtain ⟨w1, w2⟩ := filW_ok hh
  have eB : hoB W H xs = fin (hoN xs (filW W H xs) xs.length) := by rw [hoB, g1]; rfl
  unfold hoV
  rw [eB]
  repeat (first
    | (refine ⟨⟨by kernel_rfl, by kernel_rfl⟩, ?_⟩; conv => whnf)
    | (refine And.intro (by first | omega | (simp; done) | (simp; omega)) ?_; conv => whnf)
    | (refine Or.inl (And.intro (by omega) ?_); conv => whnf)
    | (refine Exists.intro _ (And.intro (iFilled hh) ?_); conv => whnf))
  refine ⟨Nat, fun i => i ≤ xs.length, fun i => [(1, .loc 4 0), (4, .flt .f32 (hoN xs (filW W H xs) i)), (12, .osl 44), (13, .int .i64 (filW W H xs).length), (14, .int .i64 i)], fun i => [(4, .av [.int .i64 W, .int .i64 H, .sli .f32 xs t]), (44, .tab .f32 (filW W H xs))], fun i => xs.length - i, ⟨0, id, Nat.zero_le _, rfl, ⟨rfl, rfl, rfl, rfl, rfl, trivial⟩, ⟨rfl, rfl, trivial⟩⟩, fun i hi => ?_⟩
  dsimp only at hi
  conv => whnf
  (refine br_intro (fun h => ?_) (fun h => ?_) <;> (conv => whnf))
  · have h : i < xs.length := by simp at h; omega
    repeat (first
      | (refine ⟨⟨by kernel_rfl, by kernel_rfl⟩, ?_⟩; conv => whnf)
      | (refine And.intro (by first | omega | (simp; done) | (simp; omega)) ?_; conv => whnf)
      | (refine Or.inl (And.intro (by omega) ?_); conv => whnf))
    refine ⟨i + 1, id, ⟨h, by dsimp only; omega⟩, rfl, ⟨rfl, rfl, rfl, rfl, rfl, trivial⟩, ⟨rfl, rfl, trivial⟩⟩
  · have h : i = xs.length := by simp at h; omega
    subst h
    repeat (first
      | (refine ⟨⟨by kernel_rfl, by kernel_rfl⟩, ?_⟩; conv => whnf)
      | (refine And.intro (by first | omega | (simp; done) | (simp; omega)) ?_; conv => whnf)
      | (refine Or.inl (And.intro (by omega) ?_); conv => whnf)
      | (refine Exists.intro _ (And.intro (iNumber) ?_); conv => whnf))
    all_goals (try (conv => whnf))
    all_goals (repeat' (first | exact True.intro | (refine And.intro ?_ ?_ <;> (conv => whnf))))
    all_goals (first | rfl | (simp_all []; done) | (simp only [cond_true, cond_false, Bool.and_true, Bool.true_and, Bool.and_false, Bool.false_and]; rfl) | (simp_all []; omega))

end Go.Proofs.Ytngmlbeafdaolaa
