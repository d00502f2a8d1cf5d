/- What each function of this seat does (Wtc). Printed from templates of this seat's own. -/
import Derived.Test.YtngmlbeafdaolaaWtb
namespace Go.Proofs.Ytngmlbeafdaolaa
open Go.Ax Go.Bx
set_option maxRecDepth 8000
set_option linter.unusedSimpArgs false
set_option linter.unusedVariables false

theorem enS_congr {ds : List Int} {u v : Nat → Nat} : ∀ m, (∀ k, k < m → u k = v k) → enS ds u m = enS ds v m
  | 0, _ => rfl
  | m + 1, h => by rw [enS, enS, enS_congr m fun k hk => h k (by omega), h m (by omega)]
theorem gaEnd_congr {ds : List Int} {u v : Nat → Int} : ∀ m, (∀ k, k < m → u k = v k) → gaEnd ds u m = gaEnd ds v m
  | 0, _ => rfl
  | m + 1, h => by rw [gaEnd, gaEnd, gaEnd_congr m fun k hk => h k (by omega), h m (by omega)]
theorem lawWaysTold (bs : List Int) (nb : bs.length < 2 ^ 63) (lb : ∀ y ∈ bs, IntKind.u8.min ≤ y ∧ y ≤ IntKind.u8.max) (cs : List Int) (nc : cs.length < 2 ^ 63) (lc : ∀ y ∈ cs, IntKind.u8.min ≤ y ∧ y ≤ IntKind.u8.max) : Does Try.prog 5 [.sli (.int .u8) bs .undef, .sli (.int .u8) cs .undef] (.bool true) := by
  cases hlong : (decide (48 < bs.length) || decide (48 < cs.length)) with
  | true =>
    have e0 : ∀ t t', Does Try.prog 15 [.sli (.int .u8) bs t, .sli (.int .u8) cs t'] (.bool true) := fun t t' => hlong ▸ lR8Long nb nc
    refine Does.of_awp (X := cx 390) Try.func5 rfl (by kernel_rfl) rfl (by simp [cx]) [] rfl ?_
    conv => whnf
    repeat (first
      | (refine ⟨⟨by kernel_rfl, by kernel_rfl⟩, ?_⟩; conv => whnf)
      | (refine And.intro (by first | omega | (simp; done) | (simp; omega)) ?_; conv => whnf)
      | (refine Or.inl (And.intro (by omega) ?_); conv => whnf)
      | (refine Exists.intro _ (And.intro (e0 _ _) ?_); conv => whnf))
    all_goals (try (conv => whnf))
    all_goals (repeat' (first | exact True.intro | (refine And.intro ?_ ?_ <;> (conv => whnf))))
    all_goals (first | rfl | (simp_all []; done) | (simp only [cond_true, cond_false, Bool.and_true, Bool.true_and, Bool.and_false, Bool.false_and]; rfl) | (simp_all []; omega))
  | false =>
  have e0 : ∀ t t', Does Try.prog 15 [.sli (.int .u8) bs t, .sli (.int .u8) cs t'] (.bool false) := fun t t' => hlong ▸ lR8Long nb nc
  simp only [Bool.or_eq_false_iff, decide_eq_false_iff_not] at hlong
  have u0 : IntKind.u8.min = 0 := by decide +kernel
  have u1 : IntKind.u8.max = 255 := by decide +kernel
  have hb : Byt bs := ⟨fun b h => by have := lb b h; omega, by omega⟩
  have hc : Byt cs := ⟨fun b h => by have := lc b h; omega, by omega⟩
  have a1 : ∀ t, Does Try.prog 16 [.sli (.int .u8) bs t] (.agg [.int .i64 (rhW bs), .int .i64 (rhV bs), .own 0 .f32 (rhX bs)]) := fun t => sR8Hill hb
  obtain ⟨_, ⟨w1, w2⟩, v1, v2⟩ := rh_sides hb
  have hs := rh_size hb
  have hX := rh_half hb
  have hl := rhX_len hb
  obtain ⟨w, hw⟩ : ∃ w : Nat, rhW bs = (w : Int) := ⟨(rhW bs).toNat, by omega⟩
  obtain ⟨v, hv⟩ : ∃ v : Nat, rhV bs = (v : Int) := ⟨(rhV bs).toNat, by omega⟩
  rw [hw, hv] at a1 hX hl
  rw [hw] at w1 w2 hs
  rw [hv] at v1 v2 hs
  generalize rhX bs = X at *
  have hn : X.length ≤ 100 := by omega
  have hh := hX.1
  have x32 := hh.2
  have lW : (rwW w v X).length = X.length := (run_leads hX hn).1
  have hB : waysB w v X (rwW w v X) = true := leads_ways hX.1 (run_leads hX hn)
  have hW := waysB_Wys hB
  have ok := wa_ok hX
  have ok2 := (wa_ok (fil_half hX)).1
  have dB := down_ways hX
  have lD : (waL w v X).length = X.length := by unfold waL; rw [tabN_len]; omega
  have lR : (tabN (rnW cs) X.length).length = X.length := tabN_len _ _
  have hr := rain_facts hc (n := X.length) (by omega)
  rw [show X.length = (rwW w v X).length from lW.symm] at hr
  have fR : finL (tabN (rnW cs) X.length) = true := by
    unfold finL
    rw [lR]
    exact allN_iff.2 fun i hi => by
      have := (hr i (by omega)).2.2.fin
      rwa [lW] at this
  rw [lW] at hr
  have K3 := kept hW (r := drN cs 9) (rs := tabN (rnW cs) X.length) (by rw [lW]; exact hr)
  have fT := thT_fin hW (r := drN cs 9) (rs := tabN (rnW cs) X.length) (by rw [lW]; exact hr)
  refine waysWalk (n := X.length) (X := X) (rs := tabN (rnW cs) X.length) (fl := thL (rwW w v X) (tabN (rnW cs) X.length)) (dl := waL w v X) (ds := rwW w v X) (cl := caS (rwW w v X) (rwW w v X).length) (bl := (baS (rwW w v X) (rwW w v X).length).2) (ol := orL (rwW w v X)) (lp := lpS (rwW w v X) (rwW w v X).length) (rd := rdL w v (rwW w v X) (rwW w v X).length) (m := ((baS (rwW w v X) (rwW w v X).length).1.length : Int)) (w := w) (v := v) rfl ⟨by omega, by omega⟩ lR lD lW (by rw [caS_len, lW]) (by unfold thL; rw [tabN_len, lW]) (by rw [(baS_len _ _).2, lW]) (by unfold orL; rw [tabN_len, lW]) (lpS_len hW _ (Nat.le_refl _)) (by have := rdL_len w v (rwW w v X) (rwW w v X).length; omega)
    e0 a1 (fun t => sR8Rain hc (by omega)) (fun t => ?_) (fun t => ?_) (fun t t' => dB ▸ iWaysB (by omega) (by omega)) (fun i hi => ?_) (fun t t' => ?_) (fun t t' t2 => ?_) (fun t t' => ?_) (fun t t' => ?_) (fun t t' => ?_) (fun t t' => ?_) (fun i hi => ?_) (fun i hi => ?_) (fun i hi => ?_) ?_ ?_ ?_ ?_ ?_ ?_ ?_ ?_
  · have := @iWays w v X t (by omega)
    unfold waO at this
    rw [ok.1] at this
    exact this
  · have := @iRunWays w v X t x32 (by omega)
    rw [ok.2, show rwB w v X = true by unfold rwB; rw [hh.1, ok2]; rfl] at this
    exact this
  · obtain ⟨f1, f2, f3⟩ := fall_tests hX hi
    refine ⟨(flR w v X (i : Nat)).2, fun t => ?_, f2, ?_⟩
    · have := @iFallAt w v (i : Int) X t hh.1 (cel_of hh hi)
      rw [f1] at this
      rw [waL_at hh hi]
      exact this
    · rw [waL_at hh hi]; exact f3
  · have := @iCatch w v X (rwW w v X) t t' (by omega) (by omega)
    unfold caO at this
    rw [hB] at this
    exact this
  · have := @iThrough w v X (tabN (rnW cs) X.length) (rwW w v X) t t' t2 (by omega) (by omega) (by omega)
    have eB : thB w v X (rwW w v X) (tabN (rnW cs) X.length) = true := by unfold thB thC; rw [hB, lR, lW, decide_eq_true rfl, fR, fT]; rfl
    unfold thO at this
    rw [eB] at this
    exact this
  · have := @iBasins w v X (rwW w v X) t t' (by omega) (by omega)
    unfold baO baN at this
    rw [hB] at this
    exact this
  · have := @iOrders w v X (rwW w v X) t t' (by omega) (by omega)
    unfold orO at this
    rw [hB] at this
    exact this
  · have := @iLongest w v X (rwW w v X) t t' (by omega) (by omega)
    unfold lpO at this
    rw [hB] at this
    exact this
  · have := @iRidges w v X (rwW w v X) t t' (by omega) (by omega)
    unfold rdO at this
    rw [hB] at this
    exact this
  · refine ⟨paL (rwW w v X) i, fun t t' => ?_, lpS_ge _ _ _ (by omega)⟩
    have := @iPathFrom w v (i : Int) X (rwW w v X) t t' (by omega) (by omega)
    have hC : paC w v X (rwW w v X) i = true := by
      unfold paC
      rw [hB, show inR (i : Int) 0 ((w : Int) * v - 1) = true by simp [inR]; omega]; rfl
    unfold paO at this
    rw [hC] at this
    exact this
  · by_cases g : (rwW w v X).getD i 0 < 0
    · exact .inl g
    · right
      have hi' : i < (rwW w v X).length := by omega
      obtain ⟨q1, q2, q3, q4⟩ := way_tests hW hi' (by omega)
      rw [caS_ct hW hi', caS_ct hW q1, show (orL (rwW w v X)).getD i 0 = orT (rwW w v X) i from tabN_getD (orT (rwW w v X)) hi' 0, show (orL (rwW w v X)).getD ((rwW w v X).getD i 0).toNat 0 = orT (rwW w v X) ((rwW w v X).getD i 0).toNat from tabN_getD (orT (rwW w v X)) q1 0]
      exact ⟨by omega, by omega, by omega, q3, q4⟩
  · have hi' : i < (rwW w v X).length := by omega
    obtain ⟨q1, q2, q3⟩ := lone_tests hW hi'
    rw [caS_ct hW hi', show (orL (rwW w v X)).getD i 0 = orT (rwW w v X) i from tabN_getD (orT (rwW w v X)) hi' 0]
    exact ⟨q1, ctT_max hW hi', q2, q3⟩
  · rw [← lW]; exact ends_mouths hW
  · rw [← lW, gaEnd_congr _ fun k hk => (show gI (caS (rwW w v X) (rwW w v X).length) k = ctT (rwW w v X) k from caS_ct hW hk)]
    exact cells_total hW
  · rw [← lW, enS_congr _ fun k hk => (show gF (thL (rwW w v X) (tabN (rnW cs) (rwW w v X).length)) k = thT (rwW w v X) (tabN (rnW cs) (rwW w v X).length) k from tabN_getD (thT (rwW w v X) (tabN (rnW cs) (rwW w v X).length)) hk 0)]
    rw [← lW] at K3
    exact K3
  · obtain ⟨k, hk⟩ : ∃ k, (rwW w v X).length = k + 1 := ⟨(rwW w v X).length - 1, by omega⟩
    have := baS_first (rwW w v X) k
    rw [← hk] at this
    exact this
  · intro h
    exact no_ridges (by omega)
  · intro h
    exact some_ridge hW (by omega)
  · intro k hk
    have := (rdL_at (W := w) (H := v) (ds := rwW w v X) (rwW w v X).length).1 k hk
    omega
  · exact (rdL_at (W := w) (H := v) (ds := rwW w v X) (rwW w v X).length).2

end Go.Proofs.Ytngmlbeafdaolaa
