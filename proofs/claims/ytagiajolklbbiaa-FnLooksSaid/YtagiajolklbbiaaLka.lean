/- What each function of this seat does (Lka). Printed from templates of this seat's own. -/
import Derived.Test.YtagiajolklbbiaaLk9
import Derived.Test.YtagiajolklbbiaaLk1
import Derived.Test.YtagiajolklbbiaaLk8
import Derived.Test.YtagiajolklbbiaaLt30
import Derived.Test.YtagiajolklbbiaaLt31
import Derived.Test.YtagiajolklbbiaaLt32
import Derived.Test.YtagiajolklbbiaaLt33
namespace Go.Proofs.Ytagiajolklbbiaa
open Go.Ax Go.Bx
set_option maxRecDepth 8000
set_option linter.unusedSimpArgs false
set_option linter.unusedVariables false

theorem shade_ok {e s : Int} (he : -8 ≤ e ∧ e ≤ 8) (hs : -8 ≤ s ∧ s ≤ 8) {k : Nat} (hk : k < 16) : shOk (shV (qW e) (qW s) (phW.getD k (0, 0)).1 (phW.getD k (0, 0)).2) = true := by
  have key : (List.range 17).all (fun e => (List.range 17).all fun s => shOk (shV (qW ((e : Int) - 8)) (qW ((s : Int) - 8)) (phW.getD k (0, 0)).1 (phW.getD k (0, 0)).2)) = true := by
    have : k = 0 ∨ k = 1 ∨ k = 2 ∨ k = 3 ∨ k = 4 ∨ k = 5 ∨ k = 6 ∨ k = 7 ∨ k = 8 ∨ k = 9 ∨ k = 10 ∨ k = 11 ∨ k = 12 ∨ k = 13 ∨ k = 14 ∨ k = 15 := by omega
    rcases this with rfl | rfl | rfl | rfl | rfl | rfl | rfl | rfl | rfl | rfl | rfl | rfl | rfl | rfl | rfl | rfl
    · exact tab_sh0
    · exact tab_sh1
    · exact tab_sh2
    · exact tab_sh3
    · exact tab_sh4
    · exact tab_sh5
    · exact tab_sh6
    · exact tab_sh7
    · exact tab_sh8
    · exact tab_sh9
    · exact tab_sh10
    · exact tab_sh11
    · exact tab_sh12
    · exact tab_sh13
    · exact tab_sh14
    · exact tab_sh15
  generalize phW.getD k (0, 0) = p at *
  have t := List.all_eq_true.1 (List.all_eq_true.1 key (e + 8).toNat (List.mem_range.2 (by omega))) (s + 8).toNat (List.mem_range.2 (by omega))
  rwa [show (((e + 8).toNat : Nat) : Int) - 8 = e by omega, show (((s + 8).toNat : Nat) : Int) - 8 = s by omega] at t
theorem num_fin {x : Nat} (h : fin x = true) : fcmp .neq .f32 x x = false := by
  rw [fin_eq, isFin] at h
  have h := of_decide_eq_true h
  rw [neq_self]
  exact Fin.num h
theorem lawLooks (bs : List Int) (nb : bs.length < 2 ^ 63) (lb : ∀ y ∈ bs, IntKind.u8.min ≤ y ∧ y ≤ IntKind.u8.max) (cs : List Int) (nc : cs.length < 2 ^ 63) (lc : ∀ y ∈ cs, IntKind.u8.min ≤ y ∧ y ≤ IntKind.u8.max) : Does Try.prog 3 [.sli (.int .u8) bs .undef, .sli (.int .u8) cs .undef] (.bool true) := by
  cases hlong : (decide (48 < bs.length) || decide (48 < cs.length)) with
  | true =>
    have e0 : ∀ t t', Does Try.prog 4 [.sli (.int .u8) bs t, .sli (.int .u8) cs t'] (.bool true) := fun t t' => hlong ▸ lR8Long nb nc
    refine Does.of_awp (X := cx 377) Try.func3 rfl (by kernel_rfl) rfl (by simp [cx]) [] rfl ?_
    conv => whnf
    repeat (first
      | (refine ⟨⟨by kernel_rfl, by kernel_rfl⟩, ?_⟩; conv => whnf)
      | (refine And.intro (by first | omega | (simp; done) | (simp; omega)) ?_; conv => whnf)
      | (refine Or.inl (And.intro (by omega) ?_); conv => whnf)
      | (refine Exists.intro _ (And.intro (e0 _ _) ?_); conv => whnf))
    all_goals (try (conv => whnf))
    all_goals (repeat' (first | exact True.intro | (refine And.intro ?_ ?_ <;> (conv => whnf))))
    all_goals (first | rfl | (simp_all []; done) | (simp only [cond_true, cond_false, Bool.and_true, Bool.true_and, Bool.and_false, Bool.false_and]; rfl) | (simp_all []; omega))
  | false =>
  have e0 : ∀ t t', Does Try.prog 4 [.sli (.int .u8) bs t, .sli (.int .u8) cs t'] (.bool false) := fun t t' => hlong ▸ lR8Long nb nc
  simp only [Bool.or_eq_false_iff, decide_eq_false_iff_not] at hlong
  have u0 : IntKind.u8.min = 0 := by decide +kernel
  have u1 : IntKind.u8.max = 255 := by decide +kernel
  have hb : Byt bs := ⟨fun b h => by have := lb b h; omega, by omega⟩
  have hc : Byt cs := ⟨fun b h => by have := lc b h; omega, by omega⟩
  have a1 : ∀ t, Does Try.prog 5 [.sli (.int .u8) bs t] (.agg [.int .i64 (rhW bs), .int .i64 (rhV bs), .own 0 .f32 (rhX bs)]) := fun t => sR8Hill hb
  obtain ⟨_, ⟨w1, w2⟩, v1, v2⟩ := rh_sides hb
  have hs := rh_size hb
  have hX := rh_half hb
  have hl := rhX_len hb
  obtain ⟨w, hw⟩ : ∃ w : Nat, rhW bs = (w : Int) := ⟨(rhW bs).toNat, by omega⟩
  obtain ⟨v, hv⟩ : ∃ v : Nat, rhV bs = (v : Int) := ⟨(rhV bs).toNat, by omega⟩
  rw [hw, hv] at a1 hX hl
  rw [hw] at w1 w2 hs
  rw [hv] at v1 v2 hs
  generalize rhX bs = X at *
  obtain ⟨hh, h, hx⟩ := hX
  have lX : X.length = v * w := by rw [← Int.natCast_mul, Int.ofNat_inj] at hl; rw [hl, Nat.mul_comm]
  have lX' : X.length = w * v := by rw [lX, Nat.mul_comm]
  have hT1 := tu_hill hh
  have hT2 := tu_hill hT1
  have hT3 := tu_hill hT2
  have T4 := fun t => iTurn (t := t) hT3
  rw [tu4 (w := w) (h := v) (by omega) (by omega) lX'] at T4
  obtain ⟨lo, lo8, loE, loL⟩ := low_ok (by omega) hx X.length (Nat.le_refl _)
  obtain ⟨hi, hi8, hiE, hiL⟩ := high_ok (by omega) hx X.length (Nat.le_refl _)
  have S1 := fun i (hi' : i < X.length) => smooth_ok hh.1 hx loL hiL lo8 hi8 hi'
  have eL : smL w v X = tabN (fun i => smV w v X (i : Nat)) (v * w) := by
    unfold smL
    rw [show ((w : Int) * (v : Int)).toNat = v * w by rw [← Int.natCast_mul, Nat.mul_comm]; rfl]
  have hM : hillB w v (smL w v X) = true := by
    rw [eL]
    exact hill_tab (by omega) (by omega) fun i hi' => (S1 i (by omega)).1
  have hF : hillB w v (tabN (fun i => fop .mul .f32 (X.getD i 0) (canon .f32 0)) (v * w)) = true := hill_tab (by omega) (by omega) fun i hi' => (flat_ok hx (by omega)).1
  have sE := sum_eq lX hx
  have r0 := r8V_bound (bs := cs) 0 (n := 17) (by omega)
  have r1 := r8V_bound (bs := cs) 1 (n := 17) (by omega)
  have r2 := r8V_bound (bs := cs) 2 (n := 16) (by omega)
  have B1 : ∀ t, Does Try.prog 12 [.sli (.int .u8) cs t, .int .i64 0, .int .i64 17] (.int .i64 (r8V cs 0 17)) := fun t => lR8At (k := 0) hc (by omega)
  have B2 : ∀ t, Does Try.prog 12 [.sli (.int .u8) cs t, .int .i64 1, .int .i64 17] (.int .i64 (r8V cs 1 17)) := fun t => lR8At (k := 1) hc (by omega)
  have B3 : ∀ t, Does Try.prog 12 [.sli (.int .u8) cs t, .int .i64 2, .int .i64 16] (.int .i64 (r8V cs 2 16)) := fun t => lR8At (k := 2) hc (by omega)
  generalize r8V cs 0 17 = a at *
  generalize r8V cs 1 17 = b at *
  generalize r8V cs 2 16 = k at *
  have he : -8 ≤ a - 8 ∧ a - 8 ≤ 8 := by omega
  have hs' : -8 ≤ b - 8 ∧ b - 8 ≤ 8 := by omega
  have dE : dvN a 8 (canon .f32 1082130432) = qW (a - 8) := by unfold dvN qW; rw [foi_eq]
  have dS : dvN b 8 (canon .f32 1082130432) = qW (b - 8) := by unfold dvN qW; rw [foi_eq]
  have dK : fop .quo .f32 (foi .f32 k) (canon .f32 1098907648) = tkW k.toNat := by unfold tkW; rw [foi_eq, show ((k.toNat : Nat) : Int) = k by omega]
  have hk : k.toNat < 16 := by omega
  obtain ⟨p1, p2⟩ := phase_ok hk
  have sh := shade_ok he hs' hk
  have hSl : ∀ n, n < 12 → (tabN (slG (canon .f32 1065353216) (qW (a - 8)) (qW (b - 8)) 4) (3 * 4)).getD n 0 = qW (zAt (a - 8) (b - 8) n) := fun n hn => by
    rw [tabN_getD (slG (canon .f32 1065353216) (qW (a - 8)) (qW (b - 8)) 4) (show n < 3 * 4 by omega) 0]
    exact slope_at he hs' hn
  have lSl : (tabN (slG (canon .f32 1065353216) (qW (a - 8)) (qW (b - 8)) 4) (3 * 4)).length = 12 := tabN_len _ _
  have h0 : hillB ((4 : Nat) : Int) ((3 : Nat) : Int) (tabN (slG (canon .f32 1065353216) (qW (a - 8)) (qW (b - 8)) 4) (3 * 4)) = true := hill_tab (by omega) (by omega) fun i hi' => by
    rw [slope_at he hs' (by omega)]
    exact finq_ok (zAt_range he hs' (by omega))
  have A7 : Does Try.prog 13 [.int .i64 4, .int .i64 3, .flt .f32 (canon .f32 1065353216), .flt .f32 (qW (a - 8)), .flt .f32 (qW (b - 8))] (.tup [.agg [.int .i64 4, .int .i64 3, .own 0 .f32 (tabN (slG (canon .f32 1065353216) (qW (a - 8)) (qW (b - 8)) 4) (3 * 4))], .bool true]) := iSlope (w := 4) (h := 3) (by omega) (by omega) (by decide +kernel) (finq_ok (by omega)) (finq_ok (by omega)) h0
  have h0 : hillB 4 3 (tabN (slG (canon .f32 1065353216) (qW (a - 8)) (qW (b - 8)) 4) (3 * 4)) = true := h0
  generalize tabN (slG (canon .f32 1065353216) (qW (a - 8)) (qW (b - 8)) 4) (3 * 4) = S at *
  have wl := fun t t' => wall_ok (t := t) (t' := t') he h0 hSl
  have hCo := cone_hill
  have A11 : Does Try.prog 18 [.int .i64 3, .int .i64 3, .flt .f32 (canon .f32 1073741824), .flt .f32 (canon .f32 1065353216)] (.tup [.agg [.int .i64 3, .int .i64 3, .own 0 .f32 (tabN (coG (canon .f32 1073741824) (canon .f32 1065353216) 3 3) (3 * 3))], .bool true]) := iCone (w := 3) (h := 3) (by omega) (by omega) (by decide +kernel) (by decide +kernel) hCo
  have C4 : (tabN (coG (canon .f32 1073741824) (canon .f32 1065353216) 3 3) (3 * 3)).getD 4 0 = coC 1 1 := by
    rw [tabN_getD (coG (canon .f32 1073741824) (canon .f32 1065353216) 3 3) (show 4 < 3 * 3 by omega) 0]; exact cone_at 4
  have C1 : (tabN (coG (canon .f32 1073741824) (canon .f32 1065353216) 3 3) (3 * 3)).getD 1 0 = coC 1 0 := by
    rw [tabN_getD (coG (canon .f32 1073741824) (canon .f32 1065353216) 3 3) (show 1 < 3 * 3 by omega) 0]; exact cone_at 1
  have tc := tab_cone2
  rw [Bool.and_eq_true] at tc
  have lCo : (tabN (coG (canon .f32 1073741824) (canon .f32 1065353216) 3 3) (3 * 3)).length = 9 := tabN_len _ _
  have c4 : fcmp .eql .f32 ((tabN (coG (canon .f32 1073741824) (canon .f32 1065353216) 3 3) (3 * 3)).getD 4 0) (canon .f32 1073741824) = true := by rw [C4]; exact tc.1
  have c1 : fcmp .eql .f32 ((tabN (coG (canon .f32 1073741824) (canon .f32 1065353216) 3 3) (3 * 3)).getD 1 0) (canon .f32 1065353216) = true := by rw [C1]; exact tc.2
  generalize tabN (coG (canon .f32 1073741824) (canon .f32 1065353216) 3 3) (3 * 3) = Co at *
  clear C4 C1 tc hCo
  unfold shOk at sh
  simp only [Bool.and_eq_true, Bool.not_eq_true'] at sh
  obtain ⟨⟨sh1, sh2⟩, sh3, sh4⟩ := sh
  refine looksWalk (X := X) (w := w) (v := v) (S := S) (Co := Co) (sd := sdT (v * w)) (a := a) (b := b) (k := k) (M := smL w v X) (V := shV (qW (a - 8)) (qW (b - 8)) (phW.getD k.toNat (0, 0)).1 (phW.getD k.toNat (0, 0)).2) ⟨by omega, by omega⟩ (by rw [eL, tabN_len, lX]) lSl lCo e0 a1 (fun t => iTurn hh) (fun t => iTurn hT1) (fun t => iTurn hT2) T4 (fun t => ?_) (fun t => iRough hh.1 (rough_eq lX hx (by omega))) (fun t => iScale hh.1 (by decide +kernel) hF) (fun t t' => ?_) (fun t t' => iSameHill (by omega) hh.2) ?_ (fun i hi' => ?_) B1 r0 B2 r1 B3 r2 (by rw [dE, dS]; exact A7) (fun t => ?_) (fun i hi' t => by rw [dE, dS]; exact tilt_ok he hs' lSl hSl h0 hi') (by rw [dE]; exact num_fin (finq_ok (by omega))) (by rw [dS]; exact num_fin (finq_ok (by omega))) sh2 sh3 sh4 (fun t => sees1 he h0 hSl) (fun t => sees2 hs' h0 hSl) (fun t => iSees05 h0 (by decide +kernel)) (fun t t' => (wl t t').1) (fun t => sees4 he h0 hSl rfl (wl .undef .undef).2) A11 c4 c1
  · have r := @iSmooth w v X t (by omega)
    unfold hlR hlO hlC at r
    rw [hh.1, hM] at r
    exact r
  · have r := iAdd (t := t) (t' := t') hh.1 hF (by rw [sE]; exact hh.1)
    rw [sE] at r
    exact r
  · have t := of_tab (p := fun n => Nat.blt n 9 || decide (sdT n ≠ 77)) tab_seed (show v * w < 37 by omega)
    rw [show Nat.blt (v * w) 9 = false by rw [← Bool.not_eq_true, Nat.blt_eq]; omega, Bool.false_or] at t
    exact of_decide_eq_true t
  · have q := S1 i hi'
    rw [eL, tabN_getD (fun i => smV w v X (i : Nat)) (show i < v * w by omega) 0, loE, hiE]
    exact q.2
  · rw [dK]
    exact iShade h0 p1 p2 (fun i hi' t => tilt_ok he hs' lSl hSl h0 hi') (pow_ok he hs') sh1

end Go.Proofs.Ytagiajolklbbiaa
