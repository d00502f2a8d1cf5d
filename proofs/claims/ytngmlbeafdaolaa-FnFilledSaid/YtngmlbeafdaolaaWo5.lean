/- What each function of this seat does (Wo5). Printed from templates of this seat's own. -/
import Derived.Test.YtngmlbeafdaolaaWo4
import Derived.Test.YtngmlbeafdaolaaR8b
namespace Go.Proofs.Ytngmlbeafdaolaa
open Go.Ax Go.Bx
set_option maxRecDepth 8000
set_option linter.unusedSimpArgs false
set_option linter.unusedVariables false
/-! What the law of filled hills asks. -/
theorem b32 : 2 * FloatKind.f32.format.binade = 16777216 := by decide +kernel
theorem b64 : 2 * FloatKind.f64.format.binade = 9007199254740992 := by decide +kernel
theorem half_dyH {W H : Int} {xs : List Nat} (hx : HalfH W H xs) : ∃ g : Nat → Int, DyH W H xs g ∧ ∀ i, i < xs.length → 0 ≤ g i ∧ g i ≤ 8 := by
  obtain ⟨hh, h, hg⟩ := hx
  refine ⟨fun i => (h i : Int), ⟨hh, fun i hi => ?_⟩, fun i hi => ?_⟩
  · obtain ⟨a, b⟩ := hg i hi
    refine ⟨by dsimp only; omega, by dsimp only; omega, ?_⟩
    show Dy .f32 1 ((h i : Nat) : Int) (xs.getD i 0)
    rw [b]; exact dy_half a
  · have := (hg i hi).1
    exact ⟨by dsimp only; omega, by dsimp only; omega⟩
/-- The sum of what was filled in, in wide numbers. -/
noncomputable def byS (xs f : List Nat) : Nat → Nat
  | 0 => canon .f64 0
  | i + 1 => fop .add .f64 (byS xs f i) (fwiden (fop .sub .f32 (f.getD i 0) (xs.getD i 0)))
theorem dy64_0 : Dy .f64 1 0 (canon .f64 0) := dyB_spec (by decide +kernel)
theorem dy64_001 : Dy .f64 62 4611686018427388 (canon .f64 4562254508917369340) := dyB_spec (by decide +kernel)
theorem gap_0 {a b : Nat} {n : Int} (ha : Dy .f64 1 n a) (hb : Dy .f64 1 n b) : fcmp .gtr .f64 (r8G a b) (canon .f64 4562254508917369340) = false ∧ fcmp .lss .f64 (r8G a b) (canon .f64 4562254508917369340) = true := by
  have d1 := ha.sub hb (by rw [b64]; omega)
  have d2 := hb.sub ha (by rw [b64]; omega)
  rw [Int.sub_self] at d1 d2
  have d : Dy .f64 1 0 (r8G a b) := by
    unfold r8G fmaxA
    rw [order_num d1.1.num d2.1.num]
    simp only [compare, compareOfLessAndEq]
    split
    · next h => cases h
    · exact d2
    · exact d1
    · split
      · exact d2
      · exact d1
  have z := d.up 61 (by rw [zOf_64]; omega)
  rw [Int.zero_mul] at z
  have z' : Dy .f64 62 0 (r8G a b) := z
  exact ⟨by rw [z'.gtr dy64_001]; rfl, by rw [z'.lss dy64_001]; rfl⟩
section
variable {W H : Int} {xs : List Nat} {g : Nat → Int} (hx : DyH W H xs g) (hn : xs.length ≤ 100) {p : Nat → Nat} (hp : ∀ i, i < xs.length → p i < xs.length ∧ Dy .f32 1 (g (p i)) ((filW W H xs).getD i 0) ∧ P32 ((filW W H xs).getD i 0) = P32 (xs.getD (p i) 0) ∧ g i ≤ g (p i) ∧ (edB W H i = true → g (p i) = g i))
include hx hp
theorem by_dy {i : Nat} (hi : i < xs.length) : Dy .f32 1 (g (p i) - g i) (fop .sub .f32 ((filW W H xs).getD i 0) (xs.getD i 0)) := by
  obtain ⟨a1, a2, _, a3, _⟩ := hp i hi
  obtain ⟨b1, b2, b3⟩ := hx.2 i hi
  obtain ⟨c1, c2, _⟩ := hx.2 _ a1
  exact a2.sub b3 (by rw [b32]; omega)
theorem by_tests {i : Nat} (hi : i < xs.length) : fcmp .lss .f32 (fop .sub .f32 ((filW W H xs).getD i 0) (xs.getD i 0)) (canon .f32 0) = false ∧ (edB W H i = true → fcmp .neq .f32 (fop .sub .f32 ((filW W H xs).getD i 0) (xs.getD i 0)) (canon .f32 0) = false) := by
  have d := by_dy hx hp hi
  have z := dy_zero 1 (by omega)
  obtain ⟨_, _, _, a3, a4⟩ := hp i hi
  refine ⟨by rw [d.lss z]; exact decide_eq_false (by omega), fun he => ?_⟩
  have e0 : g (p i) - g i = 0 := by have := a4 he; omega
  rw [e0] at d
  have q1 := (d.le_iff z).2 (Int.le_refl _)
  have q2 := (z.le_iff d).2 (Int.le_refl _)
  unfold fcmp
  rw [order_num d.1.num z.1.num]
  simp only [compare, compareOfLessAndEq]
  rw [if_neg (by omega), if_pos (by omega)]
  rfl
include hn in
theorem byS_dy : ∀ k, k ≤ xs.length → Dy .f64 1 (sI (fun i => g (p i) - g i) k) (byS xs (filW W H xs) k)
  | 0, _ => dy64_0
  | k + 1, hk => by
    have h1 := byS_dy k (by omega)
    have d := (by_dy hx hp (i := k) (by omega)).widen
    have h3 := hollow_dy hx hn hp k (by omega)
    obtain ⟨a1, _, _, a3, _⟩ := hp k (by omega)
    obtain ⟨b1, b2, _⟩ := hx.2 k (by omega)
    obtain ⟨c1, c2, _⟩ := hx.2 _ a1
    have e : sI (fun i => g (p i) - g i) (k + 1) = sI (fun i => g (p i) - g i) k + (g (p k) - g k) := rfl
    rw [byS, e]
    exact h1.add d (by rw [b64]; omega)
include hn in
theorem hollow_ok : hoB W H xs = true ∧ Dy .f32 1 (sI (fun i => g (p i) - g i) xs.length) (hoN xs (filW W H xs) xs.length) ∧ 0 ≤ sI (fun i => g (p i) - g i) xs.length ∧ sI (fun i => g (p i) - g i) xs.length ≤ 4000 := by
  obtain ⟨h1, h2, h3⟩ := hollow_dy hx hn hp xs.length (Nat.le_refl _)
  refine ⟨?_, h1, h2, by omega⟩
  unfold hoB
  rw [hx.1.1, h1.fin]; rfl
end
theorem no_hollow {W H : Int} {xs : List Nat} {g : Nat → Int} (hx : DyH W H xs g) (hn : xs.length ≤ 100) : hoB W H (filW W H xs) = true ∧ fcmp .neq .f32 (hoN (filW W H xs) (filW W H (filW W H xs)) (filW W H xs).length) (canon .f32 0) = false := by
  obtain ⟨p, hp⟩ := fil_dy hx
  have K := filK hx.1
  have hf := (filW_ok hx.1).1
  have all : ∀ k, k ≤ xs.length → Dy .f32 1 0 (hoN (filW W H xs) (filW W H xs) k) := by
    intro k
    induction k with
    | zero => intro _; exact dy_zero 1 (by omega)
    | succ k ih =>
      intro hk
      have h1 := ih (by omega)
      have a := (hp k (by omega)).2.1
      have d := a.sub a (by rw [b32]; omega)
      rw [Int.sub_self] at d
      rw [hoN]
      exact h1.add d (by rw [b32]; omega)
  have e := fil_idem hx.1
  have d := all _ (Nat.le_refl _)
  have z := dy_zero 1 (by omega)
  refine ⟨?_, ?_⟩
  · unfold hoB
    rw [hf.1, e, K.len, d.fin]; rfl
  · rw [e, K.len]
    have q1 := (d.le_iff z).2 (Int.le_refl _)
    have q2 := (z.le_iff d).2 (Int.le_refl _)
    unfold fcmp
    rw [order_num d.1.num z.1.num]
    simp only [compare, compareOfLessAndEq]
    rw [if_neg (by omega), if_pos (by omega)]
    rfl
section
variable {W H : Int} {xs : List Nat} (hx : HalfH W H xs) (hn : xs.length ≤ 100)
include hx hn
theorem run_ways : waysB W H xs (rwW W H xs) = true ∧ Wys W H (rwW W H xs) := by
  have h := leads_ways hx.1 (run_leads hx hn)
  exact ⟨h, waysB_Wys h⟩
/-- A path along the ways that run. -/
theorem run_path {i : Nat} (hi : i < xs.length) : 1 ≤ paM (rwW W H xs) i ∧ (∀ t, t < paM (rwW W H xs) i → 0 ≤ wyCur (rwW W H xs) i t ∧ (wyCur (rwW W H xs) i t).toNat < xs.length) ∧
    edB W H (wyCur (rwW W H xs) i (paM (rwW W H xs) i - 1)) = true ∧
    (∀ t, t + 1 < paM (rwW W H xs) i → fcmp .gtr .f32 ((filW W H xs).getD (wyCur (rwW W H xs) i (t + 1)).toNat 0) ((filW W H xs).getD (wyCur (rwW W H xs) i t).toNat 0) = false) := by
  have hl := hill_len hx.1.1
  have hw := (run_ways hx hn).2
  have hf := fil_half hx
  have K := filK hx.1
  obtain ⟨⟨a1, a2⟩, a3, a4, a5⟩ := paM_spec hw (c := (i : Int)) (by omega)
  have rng : ∀ t, t < paM (rwW W H xs) i → 0 ≤ wyCur (rwW W H xs) i t ∧ (wyCur (rwW W H xs) i t).toNat < xs.length := fun t ht => by
    have := a2 t ht
    have := a5 t
    omega
  refine ⟨a3, rng, ?_, fun t ht => ?_⟩
  · obtain ⟨m, hm⟩ : ∃ m, paM (rwW W H xs) i = m + 1 := ⟨paM (rwW W H xs) i - 1, by omega⟩
    rw [hm, Nat.add_sub_cancel]
    obtain ⟨r1, r2⟩ := rng m (by omega)
    have s := wyCur_pos r1
    rw [hm, s] at a1
    rcases run_step hx hn r2 with ⟨_, e⟩ | ⟨k, hk, hO, e, _⟩
    · rw [show (((wyCur (rwW W H xs) i m).toNat : Nat) : Int) = wyCur (rwW W H xs) i m by omega] at e
      exact e
    · have := (nbC_lt hx.1 hO).1
      omega
  · obtain ⟨r1, r2⟩ := rng t (by omega)
    obtain ⟨q1, q2⟩ := rng (t + 1) (by omega)
    have s := wyCur_pos r1
    rw [gtr_num (hf.1.nn (by rw [K.len]; exact q2)).1.1 (hf.1.nn (by rw [K.len]; exact r2)).1.1]
    rw [s] at q1 ⊢
    rcases run_step hx hn r2 with ⟨e, _⟩ | ⟨k, hk, hO, e, h, _⟩
    · omega
    · rw [e]
      exact decide_eq_false (by omega)
end

end Go.Proofs.Ytngmlbeafdaolaa
