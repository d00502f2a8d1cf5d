/- What each function of this seat does (Wt9). Printed from templates of this seat's own. -/
import Derived.Test.YtngmlbeafdaolaaWt1
import Derived.Test.YtngmlbeafdaolaaR8b
namespace Go.Proofs.Ytngmlbeafdaolaa
open Go.Ax Go.Bx
set_option maxRecDepth 8000
set_option linter.unusedSimpArgs false
set_option linter.unusedVariables false
/-! The rain that flows along ways is exact: quarters add up. -/
theorem dy_quart {i : Int} (h : 0 ≤ i) (h2 : i < 64) : Dy .f32 2 i (fop .quo .f32 (foi .f32 i) (canon .f32 1082130432)) := by
  have := dyB_spec (of_tab (p := fun i : Nat => dyB .f32 2 (i : Int) (fop .quo .f32 (floatOfInt .f32 (i : Int)) (canon .f32 1082130432))) tab_quarters (show i.toNat < 64 by omega))
  rw [show ((i.toNat : Nat) : Int) = i by omega] at this
  rwa [foi_eq]
theorem g32 : 2 * FloatKind.f32.format.binade = 16777216 := by decide +kernel
theorem g64 : 2 * FloatKind.f64.format.binade = 9007199254740992 := by decide +kernel
/-- What flows through a cell, in quarters. -/
noncomputable def thZ (ds : List Int) (r : Nat → Int) (c : Nat) : Int := vT ds 0 id (fun a v => a + v) id (tabN r ds.length) c
theorem chF_plus (ds : List Int) (b : Int) (v : Nat → Int) (c : Int) : ∀ m, chF ds (fun a v => a + v) b v c m = b + gaC ds v c m
  | 0 => by rw [chF, gaC]; omega
  | m + 1 => by
    rw [chF, gaC, chF_plus ds b v c m]
    by_cases h : ds.getD m 0 = c
    · rw [show (ds.getD m 0 == c) = true from by rw [h]; exact beq_self_eq_true c, cond_true, if_pos h]; omega
    · rw [show (ds.getD m 0 == c) = false by simpa using h, cond_false, if_neg h]; omega
theorem thZ_rec {W H : Int} {ds : List Int} (hW : Wys W H ds) (r : Nat → Int) {c : Nat} (hc : c < ds.length) : thZ ds r c = r c + gaC ds (thZ ds r) (c : Nat) ds.length := by
  have e := vT_eq (d := (0 : Int)) (ini := id) (st := fun a v => a + v) (fn := id) (x0 := tabN r ds.length) hW hc
  unfold thZ
  rw [e]
  show chF ds (fun a v => a + v) ((tabN r ds.length).getD c 0) _ _ _ = _
  rw [chF_plus, tabN_getD r hc 0]
theorem gaC_mono {ds : List Int} {v : Nat → Int} {c : Int} {m : Nat} : ∀ k, (∀ j, j < m + k → 0 ≤ v j) → gaC ds v c m ≤ gaC ds v c (m + k)
  | 0, _ => Int.le_refl _
  | k + 1, h => by
    have := gaC_mono (ds := ds) (c := c) (m := m) k fun j hj => h j (by omega)
    have := h (m + k) (by omega)
    rw [show m + (k + 1) = m + k + 1 from rfl, gaC]
    split <;> omega
theorem gaC_le8 {ds : List Int} {u v : Nat → Int} {c : Int} : ∀ m, (∀ k, k < m → ds.getD k 0 = c → 0 ≤ u k ∧ u k ≤ 8 * v k) → 0 ≤ gaC ds u c m ∧ gaC ds u c m ≤ 8 * gaC ds v c m
  | 0, _ => by rw [gaC, gaC]; omega
  | m + 1, h => by
    obtain ⟨a, b⟩ := gaC_le8 m fun k hk => h k (by omega)
    rw [gaC, gaC]
    by_cases e : ds.getD m 0 = c
    · have := h m (by omega) e
      rw [if_pos e, if_pos e]; omega
    · rw [if_neg e, if_neg e]; omega
theorem ctT_max {W H : Int} {ds : List Int} (hW : Wys W H ds) {c : Nat} (hc : c < ds.length) : ctT ds c ≤ 65792 := by
  rw [← caS_ct hW hc]
  have h := (caS_bnd hW ds.length (Nat.le_refl _) c).2
  have hl := hW.2.1
  have hm := hW.2.2.1
  have : (ds.length : Int) * 257 ≤ 256 * 257 := Int.mul_le_mul_of_nonneg_right (by omega) (by omega)
  omega
theorem thZ_dy {W H : Int} {ds : List Int} (hW : Wys W H ds) {r : Nat → Int} {rs : List Nat} (hr : ∀ i, i < ds.length → 0 ≤ r i ∧ r i ≤ 8 ∧ Dy .f32 2 (r i) (rs.getD i 0)) : ∀ c, c < ds.length → Dy .f32 2 (thZ ds r c) (thT ds rs c) ∧ 0 ≤ thZ ds r c ∧ thZ ds r c ≤ 8 * ctT ds c := by
  refine late_ind hW fun c hc ih => ?_
  have e0 := ctT_rec hW hc
  have mx := ctT_max hW hc
  obtain ⟨r1, r2, r3⟩ := hr c hc
  have part : ∀ m, m ≤ ds.length → 0 ≤ gaC ds (thZ ds r) (c : Nat) m ∧ gaC ds (thZ ds r) (c : Nat) m ≤ 8 * gaC ds (ctT ds) (c : Nat) m := fun m hm => gaC_le8 m fun k hk e => (ih k (by omega) e).2
  have top : ∀ m, m ≤ ds.length → r c + gaC ds (thZ ds r) (c : Nat) m ≤ 8 * ctT ds c := fun m hm => by
    have h1 := (part m hm).2
    have h2 := gaC_mono (ds := ds) (v := ctT ds) (c := ((c : Nat) : Int)) (m := m) (ds.length - m) fun j hj => ctT_nn hW (by omega)
    rw [show m + (ds.length - m) = ds.length by omega] at h2
    omega
  have step : ∀ m, m ≤ ds.length → Dy .f32 2 (r c + gaC ds (thZ ds r) (c : Nat) m) (chF ds thF (rs.getD c 0) (thT ds rs) (c : Nat) m) := by
    intro m
    induction m with
    | zero =>
      intro _
      rw [gaC, Int.add_zero]
      exact r3
    | succ m im =>
      intro hm
      have d := im (by omega)
      by_cases e : ds.getD m 0 = (c : Nat)
      · have hk := ih m (by omega) e
        have t1 := top (m + 1) hm
        have p1 := (part (m + 1) hm).1
        rw [chF_yes ds thF e]
        rw [gaC, if_pos e] at t1 p1 ⊢
        rw [← Int.add_assoc]
        exact d.add hk.1 (by rw [g32]; omega)
      · rw [chF_no ds thF e, gaC, if_neg e, Int.add_zero]
        exact d
  have all := step _ (Nat.le_refl _)
  have t1 := top _ (Nat.le_refl _)
  have p1 := (part _ (Nat.le_refl _)).1
  rw [thT_step hW hc, thZ_rec hW r hc]
  exact ⟨all, by omega, t1⟩
/-! Totals in wide numbers. -/
theorem d64_0 : Dy .f64 2 0 (canon .f64 0) := dyB_spec (by decide +kernel)
theorem d64_001 : Dy .f64 62 4611686018427388 (canon .f64 4562254508917369340) := dyB_spec (by decide +kernel)
theorem gapQ {a b : Nat} {n : Int} (ha : Dy .f64 2 n a) (hb : Dy .f64 2 n b) : fcmp .gtr .f64 (r8G a b) (canon .f64 4562254508917369340) = false := by
  have d1 := ha.sub hb (by rw [g64]; omega)
  have d2 := hb.sub ha (by rw [g64]; omega)
  rw [Int.sub_self] at d1 d2
  have d : Dy .f64 2 0 (r8G a b) := by
    unfold r8G fmaxA
    rw [order_num d1.1.num d2.1.num]
    simp only [compare, compareOfLessAndEq]
    split
    · next h => cases h
    · exact d2
    · exact d1
    · split
      · exact d2
      · exact d1
  have z := d.up 60 (by rw [zOf_64]; omega)
  rw [Int.zero_mul] at z
  have z' : Dy .f64 62 0 (r8G a b) := z
  rw [z'.gtr d64_001]; rfl
/-- All that falls; all that comes out where ways end. -/
noncomputable def flS' (rs : List Nat) : Nat → Nat
  | 0 => canon .f64 0
  | i + 1 => fop .add .f64 (flS' rs i) (fwiden (rs.getD i 0))
noncomputable def enS (ds : List Int) (v : Nat → Nat) : Nat → Nat
  | 0 => canon .f64 0
  | i + 1 => bif decide (ds.getD i 0 < 0) then fop .add .f64 (enS ds v i) (fwiden (v i)) else enS ds v i
theorem sI_bnd {f : Nat → Int} {B : Int} (hB : 0 ≤ B) : ∀ m, (∀ i, i < m → 0 ≤ f i ∧ f i ≤ B) → 0 ≤ sI f m ∧ sI f m ≤ B * m
  | 0, _ => by rw [sI]; simp
  | m + 1, h => by
    have := sI_bnd hB m fun i hi => h i (by omega)
    have := h m (by omega)
    rw [sI, show B * ((m + 1 : Nat) : Int) = B * m + B by rw [Int.natCast_succ, Int.mul_add, Int.mul_one]]
    omega
theorem gaEnd_bnd {ds : List Int} {f : Nat → Int} {B : Int} (hB : 0 ≤ B) : ∀ m, (∀ i, i < m → 0 ≤ f i ∧ f i ≤ B) → 0 ≤ gaEnd ds f m ∧ gaEnd ds f m ≤ B * m
  | 0, _ => by rw [gaEnd]; simp
  | m + 1, h => by
    have := gaEnd_bnd (ds := ds) hB m fun i hi => h i (by omega)
    have := h m (by omega)
    rw [gaEnd, show B * ((m + 1 : Nat) : Int) = B * m + B by rw [Int.natCast_succ, Int.mul_add, Int.mul_one]]
    split <;> omega
theorem flS_dy {rs : List Nat} {r : Nat → Int} {n : Nat} (hn : n ≤ 256) (hr : ∀ i, i < n → 0 ≤ r i ∧ r i ≤ 8 ∧ Dy .f32 2 (r i) (rs.getD i 0)) : ∀ m, m ≤ n → Dy .f64 2 (sI r m) (flS' rs m)
  | 0, _ => d64_0
  | m + 1, hm => by
    have d := (hr m (by omega)).2.2.widen
    have b := sI_bnd (f := r) (B := 8) (by omega) (m + 1) fun i hi => ⟨(hr i (by omega)).1, (hr i (by omega)).2.1⟩
    rw [flS']
    rw [sI] at b ⊢
    exact (flS_dy hn hr m (by omega)).add d (by rw [g64]; omega)
theorem enS_dy {ds : List Int} {v : Nat → Nat} {T : Nat → Int} {n : Nat} (hn : n ≤ 256) (hr : ∀ i, i < n → 0 ≤ T i ∧ T i ≤ 526336 ∧ Dy .f32 2 (T i) (v i)) : ∀ m, m ≤ n → Dy .f64 2 (gaEnd ds T m) (enS ds v m)
  | 0, _ => d64_0
  | m + 1, hm => by
    have d := (hr m (by omega)).2.2.widen
    have b := gaEnd_bnd (ds := ds) (f := T) (B := 526336) (by omega) (m + 1) fun i hi => ⟨(hr i (by omega)).1, (hr i (by omega)).2.1⟩
    have ih := enS_dy (ds := ds) hn hr m (by omega)
    rw [enS]
    rw [gaEnd] at b ⊢
    by_cases e : ds.getD m 0 < 0
    · rw [if_pos e] at b ⊢
      rw [decide_eq_true e, cond_true]
      exact ih.add d (by rw [g64]; omega)
    · rw [if_neg e, decide_eq_false e, cond_false, Int.add_zero]
      exact ih
/-- What falls comes out, to the last bit. -/
theorem kept {W H : Int} {ds : List Int} (hW : Wys W H ds) {r : Nat → Int} {rs : List Nat} (hr : ∀ i, i < ds.length → 0 ≤ r i ∧ r i ≤ 8 ∧ Dy .f32 2 (r i) (rs.getD i 0)) : fcmp .gtr .f64 (r8G (enS ds (thT ds rs) ds.length) (flS' rs ds.length)) (canon .f64 4562254508917369340) = false := by
  have hl := hW.2.1
  have hm := hW.2.2.1
  have a := flS_dy (n := ds.length) (by omega) hr _ (Nat.le_refl _)
  have b := enS_dy (ds := ds) (v := thT ds rs) (T := thZ ds r) (n := ds.length) (by omega) (fun i hi => by
    have h := thZ_dy hW hr i hi
    have := ctT_max hW hi
    exact ⟨h.2.1, by omega, h.1⟩) _ (Nat.le_refl _)
  rw [ga_total (fun i hi => by have := wyBe_range hW.1.1 hW.2.2.2.1 hi; omega) (fun c hc => thZ_rec hW r hc)] at b
  exact gapQ b a
theorem thT_fin {W H : Int} {ds : List Int} (hW : Wys W H ds) {r : Nat → Int} {rs : List Nat} (hr : ∀ i, i < ds.length → 0 ≤ r i ∧ r i ≤ 8 ∧ Dy .f32 2 (r i) (rs.getD i 0)) : finL (thL ds rs) = true := by
  unfold finL
  refine allN_iff.2 fun i hi => ?_
  have hi : i < ds.length := by unfold thL at hi; rw [tabN_len] at hi; exact hi
  unfold thL
  rw [tabN_getD (thT ds rs) hi 0]
  exact (thZ_dy hW hr i hi).1.fin
theorem rain_facts {cs : List Int} (hc : Byt cs) {n : Nat} (hn : n ≤ 4096) : ∀ i, i < n → 0 ≤ drN cs 9 i ∧ drN cs 9 i ≤ 8 ∧ Dy .f32 2 (drN cs 9 i) ((tabN (rnW cs) n).getD i 0) := fun i hi => by
  have b := drN_bound hc (n := 9) (by omega) (by omega) (i := i) (by omega)
  rw [tabN_getD (rnW cs) hi 0]
  exact ⟨b.1, by omega, dy_quart b.1 (by omega)⟩

end Go.Proofs.Ytngmlbeafdaolaa
