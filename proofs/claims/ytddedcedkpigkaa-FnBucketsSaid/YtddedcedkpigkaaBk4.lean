/- What each function of this seat does (Bk4). Printed from templates of this seat's own. -/
import Derived.Test.YtddedcedkpigkaaBk3
import Derived.Test.YtddedcedkpigkaaSpr
import Derived.Test.YtddedcedkpigkaaSo8
namespace Go.Proofs.Ytddedcedkpigkaa
open Go.Ax Go.Bx
set_option maxRecDepth 8000
set_option linter.unusedSimpArgs false
set_option linter.unusedVariables false
section
variable (sh : Nat) (st rs : List Nat)
noncomputable def bN (t b : Nat) : Nat := (bkO sh st rs t).1.getD b 0
noncomputable def bF (t k : Nat) : Nat := (bkI sh (bkO sh st rs t).1 (rs.getD t 0) k).2
noncomputable def bM (t k : Nat) : Nat := fop .add .f32 (bN sh st rs t k) (bF sh st rs t k)
end
theorem getD_set' (xs : List Nat) (i j v : Nat) (h : i < xs.length) : (xs.set i v).getD j 0 = if i = j then v else xs.getD j 0 := by
  rw [List.getD_eq_getElem?_getD, List.getElem?_set, List.getD_eq_getElem?_getD]
  by_cases e : i = j
  · rw [if_pos e, if_pos e, if_pos h]; rfl
  · rw [if_neg e, if_neg e]
theorem bkI_get {sh : Nat} {now : List Nat} {fl : Nat} : ∀ k, k ≤ now.length → ∀ j, (bkI sh now fl k).1.getD j 0 = if j < k then fop .sub .f32 (fop .add .f32 (now.getD j 0) (bkI sh now fl j).2) (fop .mul .f32 (fop .add .f32 (now.getD j 0) (bkI sh now fl j).2) sh) else now.getD j 0
  | 0, _, j => by rw [if_neg (by omega)]; rfl
  | k + 1, hk, j => by
    have ih := bkI_get (sh := sh) (now := now) (fl := fl) k (by omega)
    rw [bkI, bkF]
    dsimp only
    rw [getD_set' _ _ _ _ (by rw [List.length_set, bkI_len]; omega), getD_set' _ _ _ _ (by rw [bkI_len]; omega)]
    have ek := ih k
    rw [if_neg (by omega)] at ek
    by_cases h : k = j
    · subst h
      rw [if_pos rfl, if_pos (by omega), ek]
    · rw [if_neg h, if_neg h, ih j]
      by_cases hj : j < k
      · rw [if_pos hj, if_pos (by omega)]
      · rw [if_neg hj, if_neg (by omega)]
section
variable {sh : Nat} {st rs : List Nat}
theorem bF_succ {t k : Nat} (hk : k < st.length) : bF sh st rs t (k + 1) = fop .mul .f32 (bM sh st rs t k) sh := by
  have hl := (bkO_len sh st rs t).1
  have := bkI_get (sh := sh) (now := (bkO sh st rs t).1) (fl := rs.getD t 0) k (by omega) k
  rw [if_neg (by omega)] at this
  unfold bF bM bN
  rw [bkI, bkF, this]
  rfl
theorem bN_succ {t b : Nat} (hb : b < st.length) : bN sh st rs (t + 1) b = fop .sub .f32 (bM sh st rs t b) (fop .mul .f32 (bM sh st rs t b) sh) := by
  have hl := (bkO_len sh st rs t).1
  have := bkI_get (sh := sh) (now := (bkO sh st rs t).1) (fl := rs.getD t 0) st.length (by omega) b
  rw [if_pos hb] at this
  unfold bN bM
  rw [bkO]
  exact this
theorem bO_get : ∀ (i t : Nat), t < i → (bkO sh st rs i).2.getD t 0 = bF sh st rs t st.length
  | i + 1, t, h => by
    have hl := (bkO_len sh st rs i).2
    rw [bkO]
    dsimp only
    by_cases e : t < i
    · rw [← bO_get i t e]
      rw [List.getD_eq_getElem?_getD, List.getElem?_append_left (by omega), List.getD_eq_getElem?_getD]
    · have e : t = i := by omega
      subst e
      rw [List.getD_eq_getElem?_getD, List.getElem?_append_right (by omega), hl, Nat.sub_self]
      rfl
end
section
variable {sh : Nat} {st rs : List Nat}
noncomputable def vN (sh : Nat) (st rs : List Nat) (t b : Nat) : Int := sv .f32 (bN sh st rs t b)
noncomputable def vF (sh : Nat) (st rs : List Nat) (t b : Nat) : Int := sv .f32 (bF sh st rs t b)
noncomputable def vR (rs : List Nat) (t : Nat) : Int := sv .f32 (rs.getD t 0)
/-- Nothing is lost, nearly. -/
theorem mass {n N : Nat} {V e : Int} (hn : st.length = n) (hs : Unit .f32 false sh) (hst : ∀ b, b < n → NN .f32 (st.getD b 0)) (hrs : ∀ t, t < N → NN .f32 (rs.getD t 0))
    (hV : sm (vR st) n + sm (vR rs) N + N * (n * (2 * e)) ≤ V) (hb : V + e ≤ 1000 * Zu) (he : V + e + 16777216 ≤ 16777216 * e) (e0 : 0 ≤ e) :
    ∀ t : Nat, t ≤ N → ((∀ b, b < n → NN .f32 (bN sh st rs t b)) ∧ sm (vN sh st rs t) n + sm (fun i => vF sh st rs i n) t ≤ sm (vR st) n + sm (vR rs) t + t * (n * (2 * e)) ∧ sm (vR st) n + sm (vR rs) t ≤ sm (vN sh st rs t) n + sm (fun i => vF sh st rs i n) t + t * (n * (2 * e))) ∧
      ∀ i, i < t → ∀ k, k ≤ n → NN .f32 (bF sh st rs i k) ∧ (k < n → vN sh st rs i k + vF sh st rs i k ≤ sm (vR st) n + sm (vR rs) (i + 1) + N * (n * (2 * e))) := by
  have p1 : 0 ≤ sm (vR st) n := sm_nn n fun i hi => (hst i hi).2
  have p2 : 0 ≤ sm (vR rs) N := sm_nn N fun i hi => (hrs i hi).2
  have c0 : (0 : Int) ≤ n * (2 * e) := Int.mul_nonneg (by omega) (by omega)
  intro t
  induction t with
  | zero =>
    intro _
    refine ⟨⟨hst, ?_, ?_⟩, fun i hi => absurd hi (by omega)⟩
    · rw [show vN sh st rs 0 = vR st from rfl]; simp [sm]
    · rw [show vN sh st rs 0 = vR st from rfl]; simp [sm]
  | succ t ih =>
    intro ht
    obtain ⟨⟨h1, h2, h3⟩, h4⟩ := ih (by omega)
    have nO : ∀ i, i < t → 0 ≤ vF sh st rs i n := fun i hi => (h4 i hi n (Nat.le_refl _)).1.2
    have oO := sm_nn t nO
    have tc : ((t + 1 : Nat) : Int) * (n * (2 * e)) = t * (n * (2 * e)) + n * (2 * e) := by rw [Int.natCast_add, Int.add_mul]; simp
    have tN : ((t + 1 : Nat) : Int) * (n * (2 * e)) ≤ N * (n * (2 * e)) := Int.mul_le_mul_of_nonneg_right (by omega) c0
    have rM : sm (vR rs) (t + 1) ≤ sm (vR rs) N := sm_mono N (by omega) fun i hi => (hrs i hi).2
    have rE : sm (vR rs) (t + 1) = sm (vR rs) t + vR rs t := rfl
    have inner : ∀ k : Nat, k ≤ n → NN .f32 (bF sh st rs t k) ∧ (∀ b, b < k → NN .f32 (bN sh st rs (t + 1) b)) ∧
        sm (vN sh st rs (t + 1)) k + vF sh st rs t k + (sm (vN sh st rs t) n - sm (vN sh st rs t) k) ≤ sm (vN sh st rs t) n + vR rs t + k * (2 * e) ∧
        sm (vN sh st rs t) n + vR rs t ≤ sm (vN sh st rs (t + 1)) k + vF sh st rs t k + (sm (vN sh st rs t) n - sm (vN sh st rs t) k) + k * (2 * e) ∧
        (k < n → vN sh st rs t k + vF sh st rs t k ≤ sm (vR st) n + sm (vR rs) (t + 1) + N * (n * (2 * e))) := by
      intro k
      induction k with
      | zero =>
        intro _
        refine ⟨hrs t (by omega), fun b hb => absurd hb (by omega), ?_, ?_, ?_⟩
        · rw [show vF sh st rs t 0 = vR rs t from rfl]; simp [sm]; omega
        · rw [show vF sh st rs t 0 = vR rs t from rfl]; simp [sm]; omega
        · intro hk
          rw [show vF sh st rs t 0 = vR rs t from rfl]
          have := sm_mono (f := vN sh st rs t) (m := 0 + 1) n (by omega) fun i hi => (h1 i hi).2
          simp only [sm] at this
          omega
      | succ k ihk =>
        intro hk
        obtain ⟨f1, f2, f3, f4, f5⟩ := ihk (by omega)
        have f5 := f5 (by omega)
        have hnn := h1 k (by omega)
        have cell := bk_cell (V := V) (e := e) hnn f1 hs (by show vN sh st rs t k + vF sh st rs t k ≤ V; omega) hb he
        rw [show fop .add .f32 (bN sh st rs t k) (bF sh st rs t k) = bM sh st rs t k from rfl, ← bF_succ (by omega)] at cell
        have en := bN_succ (sh := sh) (st := st) (rs := rs) (t := t) (b := k) (by omega)
        rw [← bF_succ (by omega)] at en
        rw [← en] at cell
        obtain ⟨⟨_, c2, c3⟩, c4, _, c6⟩ := cell
        have v1 : sv .f32 (bN sh st rs t k) = vN sh st rs t k := rfl
        have v2 : sv .f32 (bF sh st rs t k) = vF sh st rs t k := rfl
        have v3 : sv .f32 (bF sh st rs t (k + 1)) = vF sh st rs t (k + 1) := rfl
        have v4 : sv .f32 (bN sh st rs (t + 1) k) = vN sh st rs (t + 1) k := rfl
        rw [v1, v2] at c4
        rw [v3, v4] at c6
        have ke : ((k + 1 : Nat) : Int) * (2 * e) = k * (2 * e) + 2 * e := by rw [Int.natCast_add, Int.add_mul]; simp
        have kn : ((k + 1 : Nat) : Int) * (2 * e) ≤ n * (2 * e) := Int.mul_le_mul_of_nonneg_right (by omega) (by omega)
        have allb : ∀ b, b < k + 1 → NN .f32 (bN sh st rs (t + 1) b) := fun b hb => by
          by_cases h : b < k
          · exact f2 b h
          · rw [show b = k by omega]; exact c3
        refine ⟨c2, allb, ?_, ?_, ?_⟩
        · simp only [sm]; rw [ke]; omega
        · simp only [sm]; rw [ke]; omega
        · intro hk2
          have g1 := sm_mono (f := vN sh st rs t) (m := k + 1 + 1) n (by omega) fun i hi => (h1 i hi).2
          have g2 := sm_nn (f := vN sh st rs (t + 1)) (k + 1) fun i hi => (allb i hi).2
          simp only [sm] at g1 g2
          omega
    obtain ⟨i1, i2, i3, i4, _⟩ := inner n (Nat.le_refl _)
    refine ⟨⟨i2, ?_, ?_⟩, fun i hi k hk => ?_⟩
    · rw [tc, rE]; simp only [sm]; omega
    · rw [tc, rE]; simp only [sm]; omega
    · by_cases h : i < t
      · exact h4 i h k hk
      · obtain rfl : i = t := by omega
        obtain ⟨q1, _, _, _, q5⟩ := inner k hk
        exact ⟨q1, q5⟩
end

end Go.Proofs.Ytddedcedkpigkaa
