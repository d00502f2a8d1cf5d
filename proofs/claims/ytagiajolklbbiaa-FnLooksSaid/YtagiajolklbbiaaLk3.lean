/- What each function of this seat does (Lk3). Printed from templates of this seat's own. -/
import Derived.Test.YtagiajolklbbiaaMde
namespace Go.Proofs.Ytagiajolklbbiaa
open Go.Ax Go.Bx
set_option maxRecDepth 8000
set_option linter.unusedSimpArgs false
set_option linter.unusedVariables false

theorem iAdd1 {w h x y : Nat} {X Y : List Nat} {t t' t2 t3 : AV} (hl : X.length = w * h) (hl2 : Y.length = w * h) (hw : 1 ≤ w ∧ w ≤ 16) (hh : 1 ≤ h ∧ h ≤ 16) (hx : x < w) (hy : y < h) : Does Try.prog 31 [.int .i64 x, .int .i64 y, .ref [.int .i64 w, .int .i64 h, .sli .f32 X t] t', .ref [.int .i64 w, .int .i64 h, .sli .f32 Y t2] t3] (.flt .f32 (fop .add .f32 (X.getD (y * w + x) 0) (Y.getD (y * w + x) 0))) := by
  have hxy : y * w + x < w * h := by
    have := Nat.mul_le_mul_right w (show y + 1 ≤ h by omega)
    rw [Nat.succ_mul, Nat.mul_comm h] at this; omega
  have hb : w * h ≤ 16 * 16 := Nat.mul_le_mul hw.2 hh.2
  have e : ((y : Int) * (w : Int) + (x : Int)) = ((y * w + x : Nat) : Int) := by rw [Int.natCast_add, Int.natCast_mul]
  have b1 : (0 : Int) ≤ (y : Int) * (w : Int) ∧ (y : Int) * (w : Int) ≤ 256 := by rw [← Int.natCast_mul]; omega
  have b2 : (0 : Int) ≤ (y : Int) * (w : Int) + (x : Int) ∧ (y : Int) * (w : Int) + (x : Int) < X.length := by rw [e]; omega
  have b3 : (0 : Int) ≤ (y : Int) * (w : Int) + (x : Int) ∧ (y : Int) * (w : Int) + (x : Int) < Y.length := by rw [e]; omega
  refine Does.of_awp (X := cx 28) Try.func31 rfl (by kernel_rfl) rfl (by simp [cx]) [] rfl ?_
  conv => whnf
  repeat (first
    | (refine ⟨⟨by kernel_rfl, by kernel_rfl⟩, ?_⟩; conv => whnf)
    | (refine And.intro (by first | omega | (simp; done) | (simp; omega)) ?_; conv => whnf)
    | (refine Or.inl (And.intro (by omega) ?_); conv => whnf))
  rw [e]
  all_goals (first | rfl | trivial)
noncomputable def adL (n : Nat) (X Y : List Nat) : List Nat := tabN (fun i => fop .add .f32 (X.getD i 0) (Y.getD i 0)) n
theorem iAdd {w h : Nat} {X Y : List Nat} {t t' : AV} (hX : hillB w h X = true) (hY : hillB w h Y = true) (hs : hillB w h (adL (h * w) X Y) = true) : Does Try.prog 10 [.agg [.int .i64 w, .int .i64 h, .sli .f32 X t], .agg [.int .i64 w, .int .i64 h, .sli .f32 Y t']] (.tup [.agg [.int .i64 w, .int .i64 h, .own 0 .f32 (adL (h * w) X Y)], .bool true]) := by
  obtain ⟨k1, k2, k3, k4, k5, k6, k7⟩ := hill_len hX
  obtain ⟨_, _, _, _, q5, _, _⟩ := hill_len hY
  have lX : X.length = w * h := by rw [← Int.natCast_mul] at k5; omega
  have lY : Y.length = w * h := by rw [← Int.natCast_mul] at q5; omega
  have e1 : ∀ t, Does Try.prog 21 [.agg [.int .i64 w, .int .i64 h, .sli .f32 X t]] (.bool true) := fun t => hX ▸ iIs (by omega)
  have e2 : ∀ t, Does Try.prog 21 [.agg [.int .i64 w, .int .i64 h, .sli .f32 Y t]] (.bool true) := fun t => hY ▸ iIs (by omega)
  have e3 : ∀ t t' t2 t3, Does Try.prog 22 [.int .i64 w, .int .i64 h, .fn 31 [.ref [.int .i64 w, .int .i64 h, .sli .f32 X t] t', .ref [.int .i64 w, .int .i64 h, .sli .f32 Y t2] t3]] (.tup [.agg [.int .i64 w, .int .i64 h, .own 0 .f32 (adL (h * w) X Y)], .bool true]) := fun t t' t2 t3 => by
    have := @iMadeH2 w h 31 (fun i => fop .add .f32 (X.getD i 0) (Y.getD i 0)) X Y w h w h t t' t2 t3 (by omega) (by omega) (fun x y t t' t2 t3 hx hy => iAdd1 lX lY (by omega) (by omega) hx hy)
    rw [show tabN (fun i => fop .add .f32 (X.getD i 0) (Y.getD i 0)) (h * w) = adL (h * w) X Y from rfl, hs] at this
    exact this
  clear hs
  generalize adL (h * w) X Y = Z at *
  refine Does.of_awp (X := cx 37) Try.func10 rfl (by kernel_rfl) rfl (by simp [cx]) [136] rfl ?_
  conv => whnf
  repeat (first
    | (refine ⟨⟨by kernel_rfl, by kernel_rfl⟩, ?_⟩; conv => whnf)
    | (refine And.intro (by first | omega | (simp; done) | (simp; omega)) ?_; conv => whnf)
    | (refine Or.inl (And.intro (by omega) ?_); conv => whnf)
    | (refine Exists.intro _ (And.intro (e1 _) ?_); conv => whnf)
    | (refine Exists.intro _ (And.intro (e2 _) ?_); conv => whnf)
    | (refine Exists.intro _ (And.intro (e3 _ _ _ _) ?_); conv => whnf))
  (refine br_intro (fun x1 => ?_) (fun x1 => ?_) <;> (conv => whnf))
  · exfalso; simp at x1
  repeat (first
    | (refine ⟨⟨by kernel_rfl, by kernel_rfl⟩, ?_⟩; conv => whnf)
    | (refine And.intro (by first | omega | (simp; done) | (simp; omega)) ?_; conv => whnf)
    | (refine Or.inl (And.intro (by omega) ?_); conv => whnf))
  (refine br_intro (fun x2 => ?_) (fun x2 => ?_) <;> (conv => whnf))
  · exfalso; simp at x2
  repeat (first
    | (refine ⟨⟨by kernel_rfl, by kernel_rfl⟩, ?_⟩; conv => whnf)
    | (refine And.intro (by first | omega | (simp; done) | (simp; omega)) ?_; conv => whnf)
    | (refine Or.inl (And.intro (by omega) ?_); conv => whnf)
    | (refine Exists.intro _ (And.intro (e3 _ _ _ _) ?_); conv => whnf))
  all_goals (first | rfl | trivial)

noncomputable def slG (a b c : Nat) (w n : Nat) : Nat := fop .add .f32 (fop .add .f32 a (fop .mul .f32 b (foi .f32 ((n % w : Nat) : Int)))) (fop .mul .f32 c (foi .f32 ((n / w : Nat) : Int)))
theorem iSlope1 {x y a b c : Nat} {t t' t2 : AV} : Does Try.prog 35 [.int .i64 x, .int .i64 y, .ref [.flt .f32 a] t, .ref [.flt .f32 b] t', .ref [.flt .f32 c] t2] (.flt .f32 (fop .add .f32 (fop .add .f32 a (fop .mul .f32 b (foi .f32 (x : Int)))) (fop .mul .f32 c (foi .f32 (y : Int))))) := by
  refine Does.of_awp (X := cx 19) Try.func35 rfl (by kernel_rfl) rfl (by simp [cx]) [] rfl ?_
  conv => whnf
  repeat (first
    | (refine ⟨⟨by kernel_rfl, by kernel_rfl⟩, ?_⟩; conv => whnf)
    | (refine And.intro (by first | omega | (simp; done) | (simp; omega)) ?_; conv => whnf)
    | (refine Or.inl (And.intro (by omega) ?_); conv => whnf))
  all_goals (first | rfl | trivial)
theorem fin3 {a b c : Nat} (ha : fin a = true) (hb : fin b = true) (hc : fin c = true) : finL [a, b, c] = true := by
  unfold finL
  refine allN_iff.2 fun i hi => ?_
  match i, hi with
  | 0, _ => exact ha
  | 1, _ => exact hb
  | 2, _ => exact hc
theorem fin2 {a b : Nat} (ha : fin a = true) (hb : fin b = true) : finL [a, b] = true := by
  unfold finL
  refine allN_iff.2 fun i hi => ?_
  match i, hi with
  | 0, _ => exact ha
  | 1, _ => exact hb
theorem iSlope {w h a b c : Nat} (hw : 1 ≤ w ∧ w ≤ 16) (hh : 1 ≤ h ∧ h ≤ 16) (ha : fin a = true) (hb : fin b = true) (hc : fin c = true) (hs : hillB w h (tabN (slG a b c w) (h * w)) = true) : Does Try.prog 13 [.int .i64 w, .int .i64 h, .flt .f32 a, .flt .f32 b, .flt .f32 c] (.tup [.agg [.int .i64 w, .int .i64 h, .own 0 .f32 (tabN (slG a b c w) (h * w))], .bool true]) := by
  have e1 : Does Try.prog 33 [.int .i64 w, .int .i64 h] (.bool true) := by
    have := @iSides (w : Int) (h : Int)
    rwa [show inR (w : Int) 1 16 = true by simp [inR]; omega, show inR (h : Int) 1 16 = true by simp [inR]; omega] at this
  have e2 : ∀ t, Does Try.prog 34 [.sli .f32 [a, b, c] t] (.bool true) := fun t => by
    have := iFinL (xs := [a, b, c]) (t := t) (by simp)
    rwa [fin3 ha hb hc] at this
  have e3 : ∀ t t' t2, Does Try.prog 22 [.int .i64 w, .int .i64 h, .fn 35 [.ref [.flt .f32 a] t, .ref [.flt .f32 b] t', .ref [.flt .f32 c] t2]] (.tup [.agg [.int .i64 w, .int .i64 h, .own 0 .f32 (tabN (slG a b c w) (h * w))], .bool true]) := fun t t' t2 => by
    have := @iMadeF3 w h 35 (slG a b c w) a b c t t' t2 hw hh (fun x y t t' t2 hx hy => by
      have m1 : (y * w + x) % w = x := by rw [Nat.add_comm, Nat.add_mul_mod_self_right, Nat.mod_eq_of_lt hx]
      have m2 : (y * w + x) / w = y := by rw [Nat.add_comm, Nat.add_mul_div_right _ _ (by omega), Nat.div_eq_of_lt hx, Nat.zero_add]
      rw [slG, m1, m2]
      exact iSlope1)
    rw [hs] at this
    exact this
  clear hs
  generalize tabN (slG a b c w) (h * w) = Z at *
  refine Does.of_awp (X := cx 31) Try.func13 rfl (by kernel_rfl) rfl (by simp [cx]) [112] rfl ?_
  conv => whnf
  repeat (first
    | (refine ⟨⟨by kernel_rfl, by kernel_rfl⟩, ?_⟩; conv => whnf)
    | (refine And.intro (by first | omega | (simp; done) | (simp; omega)) ?_; conv => whnf)
    | (refine Or.inl (And.intro (by omega) ?_); conv => whnf)
    | (refine Exists.intro _ (And.intro (e1) ?_); conv => whnf)
    | (refine Exists.intro _ (And.intro (e2 _) ?_); conv => whnf)
    | (refine Exists.intro _ (And.intro (e3 _ _ _) ?_); conv => whnf))
  all_goals (first | rfl | trivial)

noncomputable def roV (x : Nat) : Nat := fnarrow (fsqrt (fwiden x))
theorem iRoot {x : Nat} : Does Try.prog 37 [.flt .f32 x] (.flt .f32 (roV x)) := by
  have h := sqrt_fits x
  refine Does.of_awp (X := cx 7) Try.func37 rfl (by kernel_rfl) rfl (by simp [cx]) [] rfl ?_
  conv => whnf
  repeat (first
    | (refine ⟨⟨by kernel_rfl, by kernel_rfl⟩, ?_⟩; conv => whnf)
    | (refine And.intro (by first | omega | (simp; done) | (simp; omega)) ?_; conv => whnf)
    | (refine Or.inl (And.intro (by omega) ?_); conv => whnf)
    | (refine Exists.intro _ (And.intro (xSqrt) ?_); conv => whnf))
  all_goals (first | rfl | trivial)

noncomputable def coP (n : Int) (W : Int) : Nat := fop .sub .f32 (foi .f32 n) (fop .quo .f32 (foi .f32 (W - 1)) (canon .f32 1073741824))
noncomputable def coV (a b p q : Nat) : Nat := fop .sub .f32 a (fop .mul .f32 b (roV (fop .add .f32 (fop .mul .f32 p p) (fop .mul .f32 q q))))
theorem iCone1 {x y : Nat} {W H : Int} {a b : Nat} {t t' t2 t3 : AV} (hW : 1 ≤ W ∧ W ≤ 16) (hH : 1 ≤ H ∧ H ≤ 16) : Does Try.prog 45 [.int .i64 x, .int .i64 y, .ref [.int .i64 W] t, .ref [.int .i64 H] t', .ref [.flt .f32 a] t2, .ref [.flt .f32 b] t3] (.flt .f32 (coV a b (coP x W) (coP y H))) := by
  refine Does.of_awp (X := cx 37) Try.func45 rfl (by kernel_rfl) rfl (by simp [cx]) [] rfl ?_
  conv => whnf
  repeat (first
    | (refine ⟨⟨by kernel_rfl, by kernel_rfl⟩, ?_⟩; conv => whnf)
    | (refine And.intro (by first | omega | (simp; done) | (simp; omega)) ?_; conv => whnf)
    | (refine Or.inl (And.intro (by omega) ?_); conv => whnf)
    | (refine Exists.intro _ (And.intro (iRoot) ?_); conv => whnf))
  all_goals (first | rfl | trivial)
noncomputable def coG (a b : Nat) (w h n : Nat) : Nat := coV a b (coP ((n % w : Nat) : Int) w) (coP ((n / w : Nat) : Int) h)
theorem iCone {w h a b : Nat} (hw : 1 ≤ w ∧ w ≤ 16) (hh : 1 ≤ h ∧ h ≤ 16) (ha : fin a = true) (hb : fin b = true) (hs : hillB w h (tabN (coG a b w h) (h * w)) = true) : Does Try.prog 18 [.int .i64 w, .int .i64 h, .flt .f32 a, .flt .f32 b] (.tup [.agg [.int .i64 w, .int .i64 h, .own 0 .f32 (tabN (coG a b w h) (h * w))], .bool true]) := by
  have e1 : Does Try.prog 33 [.int .i64 w, .int .i64 h] (.bool true) := by
    have := @iSides (w : Int) (h : Int)
    rwa [show inR (w : Int) 1 16 = true by simp [inR]; omega, show inR (h : Int) 1 16 = true by simp [inR]; omega] at this
  have e2 : ∀ t, Does Try.prog 34 [.sli .f32 [a, b] t] (.bool true) := fun t => by
    have := iFinL (xs := [a, b]) (t := t) (by simp)
    rwa [fin2 ha hb] at this
  have e3 : ∀ t t' t2 t3, Does Try.prog 22 [.int .i64 w, .int .i64 h, .fn 45 [.ref [.int .i64 w] t, .ref [.int .i64 h] t', .ref [.flt .f32 a] t2, .ref [.flt .f32 b] t3]] (.tup [.agg [.int .i64 w, .int .i64 h, .own 0 .f32 (tabN (coG a b w h) (h * w))], .bool true]) := fun t t' t2 t3 => by
    have := @iMadeC4 w h 45 (coG a b w h) w h a b t t' t2 t3 hw hh (fun x y t t' t2 t3 hx hy => by
      have m1 : (y * w + x) % w = x := by rw [Nat.add_comm, Nat.add_mul_mod_self_right, Nat.mod_eq_of_lt hx]
      have m2 : (y * w + x) / w = y := by rw [Nat.add_comm, Nat.add_mul_div_right _ _ (by omega), Nat.div_eq_of_lt hx, Nat.zero_add]
      rw [coG, m1, m2]
      exact iCone1 (by omega) (by omega))
    rw [hs] at this
    exact this
  clear hs
  generalize tabN (coG a b w h) (h * w) = Z at *
  refine Does.of_awp (X := cx 28) Try.func18 rfl (by kernel_rfl) rfl (by simp [cx]) [100] rfl ?_
  conv => whnf
  repeat (first
    | (refine ⟨⟨by kernel_rfl, by kernel_rfl⟩, ?_⟩; conv => whnf)
    | (refine And.intro (by first | omega | (simp; done) | (simp; omega)) ?_; conv => whnf)
    | (refine Or.inl (And.intro (by omega) ?_); conv => whnf)
    | (refine Exists.intro _ (And.intro (e1) ?_); conv => whnf)
    | (refine Exists.intro _ (And.intro (e2 _) ?_); conv => whnf)
    | (refine Exists.intro _ (And.intro (e3 _ _ _ _) ?_); conv => whnf))
  all_goals (first | rfl | trivial)

end Go.Proofs.Ytagiajolklbbiaa
