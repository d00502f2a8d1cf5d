/- What each function of this seat does (Wo1). Printed from templates of this seat's own. -/
import Derived.Test.YtngmlbeafdaolaaRu3
import Derived.Test.YtngmlbeafdaolaaBxL
namespace Go.Proofs.Ytngmlbeafdaolaa
open Go.Ax Go.Bx
set_option maxRecDepth 8000
set_option linter.unusedSimpArgs false
set_option linter.unusedVariables false
/-! Hills of halves: where cells fall. -/
def hI (z : Int) : Nat := fop .quo .f32 (floatOfInt .f32 z) (canon .f32 1073741824)
/-- A hill whose heights are halves from nought to four. -/
def HalfH (W H : Int) (xs : List Nat) : Prop := HillW W H xs ∧ ∃ h : Nat → Nat, ∀ i, i < xs.length → h i ≤ 8 ∧ xs.getD i 0 = hI (h i : Int)
def flT (a b f : Nat) : Nat := fop .quo .f32 (fop .sub .f32 (hI (a : Int)) (hI (b : Int))) f
def flOk (a b f : Nat) : Bool := decide (rungOf FloatKind.f32.format (flT a b f) < FloatKind.f32.format.infRung) && (if b < a then decide (0 < sv .f32 (flT a b f)) else decide (sv .f32 (flT a b f) ≤ 0))
theorem tab_fall : (List.range 9).all (fun a => (List.range 9).all fun b => flOk a b (canon .f32 1068827891) && flOk a b (canon .f32 1065353216)) = true := by decide +kernel
theorem tab_half : (List.range 9).all (fun a => dyB .f32 1 (a : Int) (hI (a : Int))) = true := by decide +kernel
theorem dy_half {a : Nat} (h : a ≤ 8) : Dy .f32 1 (a : Int) (hI (a : Int)) := dyB_spec (of_tab (p := fun a : Nat => dyB .f32 1 (a : Int) (hI (a : Int))) tab_half (show a < 9 by omega))
theorem P32_half {a b : Nat} (ha : a ≤ 8) (hb : b ≤ 8) : P32 (hI (a : Int)) ≤ P32 (hI (b : Int)) ↔ a ≤ b := by
  have := (dy_half ha).le_iff (dy_half hb)
  unfold P32
  omega
theorem fl_half {a b k : Nat} (ha : a ≤ 8) (hb : b ≤ 8) : Ax.Fin .f32 (flT a b (farK k)) ∧ (b < a → 0 < sv .f32 (flT a b (farK k))) ∧ (a ≤ b → sv .f32 (flT a b (farK k)) ≤ 0) := by
  have t := of_tab (of_tab tab_fall (show a < 9 by omega)) (show b < 9 by omega)
  rw [Bool.and_eq_true] at t
  have key : ∀ f, flOk a b f = true → Ax.Fin .f32 (flT a b f) ∧ (b < a → 0 < sv .f32 (flT a b f)) ∧ (a ≤ b → sv .f32 (flT a b f) ≤ 0) := fun f h => by
    unfold flOk at h
    rw [Bool.and_eq_true, decide_eq_true_eq] at h
    refine ⟨h.1, fun g => ?_, fun g => ?_⟩
    · have := h.2; rw [if_pos g] at this; exact of_decide_eq_true this
    · have := h.2; rw [if_neg (by omega)] at this; exact of_decide_eq_true this
  unfold farK
  cases k % 2 == 1
  · exact key _ t.2
  · exact key _ t.1
theorem farK_of {W H c : Int} : ∀ {K : Nat} {r : Int × Nat}, r ∈ nbL W H c K → ∃ k, k < K ∧ nbOk W H c k = true ∧ r = (nbC W c k, farK k)
  | 0, r, h => by simp [nbL] at h
  | K + 1, r, h => by
    cases hO : nbOk W H c K with
    | false =>
      rw [← nbL_no hO] at h
      obtain ⟨k, h1, h2⟩ := farK_of h
      exact ⟨k, by omega, h2⟩
    | true =>
      rw [← nbL_yes hO, List.mem_append, List.mem_singleton] at h
      rcases h with h | h
      · obtain ⟨k, h1, h2⟩ := farK_of h
        exact ⟨k, by omega, h2⟩
      · exact ⟨K, by omega, hO, h⟩
section
variable {W H : Int} {xs : List Nat} (hx : HalfH W H xs)
include hx
/-- What the search for the steepest fall knows. -/
def flKnow (xs : List Nat) (c : Int) (s : Int × Nat) (done : List (Int × Nat)) : Prop := Ax.Fin .f32 s.2 ∧
  ((s = (-1, canon .f32 0) ∧ ∀ r ∈ done, P32 (xs.getD c.toNat 0) ≤ P32 (xs.getD r.1.toNat 0)) ∨ (∃ r ∈ done, s.1 = r.1 ∧ 0 < sv .f32 s.2 ∧ P32 (xs.getD r.1.toNat 0) < P32 (xs.getD c.toNat 0)))
theorem fl_know {c : Int} (hc : Cel W H c) : ∀ (l : List (Int × Nat)) (s : Int × Nat) (done : List (Int × Nat)), (∀ r ∈ l, r ∈ nbL W H c 8) → flKnow xs c s done → flKnow xs c (l.foldl (flF xs c) s) (done ++ l)
  | [], s, done, _, h => by simpa using h
  | r :: l, s, done, hl, h => by
    rw [List.foldl_cons, show done ++ r :: l = (done ++ [r]) ++ l by simp]
    refine fl_know hc l _ _ (fun r' h' => hl r' (List.mem_cons_of_mem _ h')) ?_
    obtain ⟨k, hk, hO, rfl⟩ := farK_of (hl r (List.mem_cons_self ..))
    obtain ⟨hh, g, hg⟩ := hx
    have hc' : c.toNat < xs.length := by
      have := hill_len hh.1
      have := hc.2
      omega
    obtain ⟨n1, n2, n3⟩ := nbC_lt hh (i := c.toNat) (k := k) (by rw [show ((c.toNat : Nat) : Int) = c by have := hc.2; omega]; exact hO)
    rw [show ((c.toNat : Nat) : Int) = c by have := hc.2; omega] at n1 n2 n3
    obtain ⟨a1, a2⟩ := hg c.toNat hc'
    obtain ⟨b1, b2⟩ := hg (nbC W c k).toNat n3
    have eD : flD xs c (nbC W c k, farK k) = flT (g c.toNat) (g (nbC W c k).toNat) (farK k) := by
      unfold flD flT
      rw [a2, b2]
    obtain ⟨f1, f2, f3⟩ := fl_half (k := k) a1 b1
    have z0 : Ax.Fin .f32 (canon .f32 0) ∧ sv .f32 (canon .f32 0) = 0 := by
      have h := dy_zero 0 (by omega)
      exact ⟨h.1, by rw [h.2.2, Int.zero_mul]⟩
    have hP := P32_half a1 b1
    have hP' := P32_half b1 a1
    obtain ⟨hf, hs⟩ := h
    unfold flF
    rw [eD]
    have cmp : fcmp .gtr .f32 (flT (g c.toNat) (g (nbC W c k).toNat) (farK k)) s.2 = decide (sv .f32 s.2 < sv .f32 (flT (g c.toNat) (g (nbC W c k).toNat) (farK k))) := by
      rw [cmp_gtr f1.num hf.num]
      have := pos_sv (k := .f32) (x := flT (g c.toNat) (g (nbC W c k).toNat) (farK k)) (y := s.2)
      exact decide_eq_decide.2 (by omega)
    have s0 : 0 ≤ sv .f32 s.2 := by
      rcases hs with ⟨e, _⟩ | ⟨r', _, _, h', _⟩
      · rw [e]; show 0 ≤ sv .f32 (canon .f32 0); rw [z0.2]; exact Int.le_refl _
      · omega
    rw [cmp]
    by_cases hlt : sv .f32 s.2 < sv .f32 (flT (g c.toNat) (g (nbC W c k).toNat) (farK k))
    · rw [decide_eq_true hlt, cond_true]
      refine ⟨f1, .inr ⟨(nbC W c k, farK k), by simp, rfl, by show 0 < sv .f32 (flT (g c.toNat) (g (nbC W c k).toNat) (farK k)); omega, ?_⟩⟩
      show P32 (xs.getD (nbC W c k).toNat 0) < P32 (xs.getD c.toNat 0)
      rw [a2, b2]
      have : ¬ g c.toNat ≤ g (nbC W c k).toNat := fun h' => by have := f3 h'; omega
      omega
    · rw [decide_eq_false hlt, cond_false]
      refine ⟨hf, ?_⟩
      rcases hs with ⟨e, h1⟩ | ⟨r', m, h1, h2, h3⟩
      · left
        refine ⟨e, fun r' m => ?_⟩
        rw [List.mem_append, List.mem_singleton] at m
        rcases m with m | m
        · exact h1 r' m
        · subst m
          show P32 (xs.getD c.toNat 0) ≤ P32 (xs.getD (nbC W c k).toNat 0)
          rw [a2, b2]
          have es : sv .f32 s.2 = 0 := by rw [e]; exact z0.2
          have : ¬ g (nbC W c k).toNat < g c.toNat := fun h' => by have := f2 h'; omega
          omega
      · exact .inr ⟨r', List.mem_append_left _ m, h1, h2, h3⟩
/-- Where a cell falls, and how steeply. -/
theorem fl_facts {c : Int} (hc : Cel W H c) : Ax.Fin .f32 (flR W H xs c).2 ∧
    ((flR W H xs c = (-1, canon .f32 0) ∧ ∀ k, k < 8 → nbOk W H c k = true → P32 (xs.getD c.toNat 0) ≤ P32 (xs.getD (nbC W c k).toNat 0)) ∨
     (∃ k, k < 8 ∧ nbOk W H c k = true ∧ (flR W H xs c).1 = nbC W c k ∧ 0 < sv .f32 (flR W H xs c).2 ∧ P32 (xs.getD (nbC W c k).toNat 0) < P32 (xs.getD c.toNat 0))) := by
  have z0 : Ax.Fin .f32 (canon .f32 0) := (dy_zero 0 (by omega)).1
  have h := fl_know hx hc (nbL W H c 8) (-1, canon .f32 0) [] (fun r h => h) ⟨z0, .inl ⟨rfl, fun r h => by simp at h⟩⟩
  rw [List.nil_append, show (nbL W H c 8).foldl (flF xs c) (-1, canon .f32 0) = flR W H xs c from (flR_eq W H xs c).symm] at h
  refine ⟨h.1, ?_⟩
  rcases h.2 with ⟨e, h1⟩ | ⟨r, m, h1, h2, h3⟩
  · left
    refine ⟨e, fun k hk hO => ?_⟩
    obtain ⟨r, m, e'⟩ := nbL_in hO hk
    rw [← e']
    exact h1 r m
  · right
    obtain ⟨k, hk, hO, rfl⟩ := farK_of m
    exact ⟨k, hk, hO, h1, h2, h3⟩
end

end Go.Proofs.Ytngmlbeafdaolaa
