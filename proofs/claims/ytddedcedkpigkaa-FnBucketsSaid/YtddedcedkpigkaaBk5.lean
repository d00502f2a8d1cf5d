/- What each function of this seat does (Bk5). Printed from templates of this seat's own. -/
import Derived.Test.YtddedcedkpigkaaBk4
namespace Go.Proofs.Ytddedcedkpigkaa
open Go.Ax Go.Bx
set_option maxRecDepth 8000
set_option linter.unusedSimpArgs false
set_option linter.unusedVariables false
theorem tJ_sm {xs : List Nat} : ∀ n, (∀ j, j < n → NN .f32 (xs.getD j 0)) → tJ xs n = sm (vR xs) n * PU
  | 0, _ => by simp [tJ, sm]
  | n + 1, h => by
    rw [tJ, sm, Int.add_mul, tJ_sm n fun j hj => h j (by omega), wv_eq (h n (by omega)).1]; rfl
theorem QP : Qu * PU = 8192 * Hu := by
  have h := ZP
  rw [Zu_q, Int.mul_assoc] at h
  omega
theorem Hu_pos : 0 < Hu := by rw [Hu_eq]; have := Wu_pos; omega
/-- A total of numbers, in wide units. -/
theorem tot_w {xs : List Nat} {n : Nat} (h : ∀ j, j < n → NN .f32 (xs.getD j 0)) (hn : n ≤ 64) (hB : sm (vR xs) n ≤ 60 * Zu) :
    Fin .f64 (totW xs n) ∧ sv .f64 (totW xs n) ≤ sm (vR xs) n * PU + 64 * Hu ∧ sm (vR xs) n * PU ≤ sv .f64 (totW xs n) + 64 * Hu := by
  have hH := Hu_pos
  have e := tJ_sm n h
  have k : sm (vR xs) n * PU ≤ (60 * Zu) * PU := Int.mul_le_mul_of_nonneg_right hB (Int.le_of_lt PU_pos)
  rw [Int.mul_assoc, ZP] at k
  obtain ⟨f, h1, h2⟩ := tot_near h hn (by rw [e]; omega) n (Nat.le_refl _)
  have : (n : Int) * Hu ≤ 64 * Hu := Int.mul_le_mul_of_nonneg_right (by omega) (by omega)
  rw [e] at h1 h2
  exact ⟨f, by omega, by omega⟩
theorem c_01 : Fin .f64 (canon .f64 4576918229304087675) ∧ sv .f64 (canon .f64 4576918229304087675) = 5764607523034235 * Wu := by
  refine ⟨dy_001.1, ?_⟩
  rw [dy_001.2.2, show zOf .f64 - 59 = eW by rw [zOf_64]; decide]
  unfold Wu
  generalize ((2 ^ eW : Nat) : Int) = z
  omega
theorem dy_m001 : Dy .f64 62 4611686018427388 (canon .f64 4562254508917369340) := dyB_spec (by decide +kernel)
theorem c_001 : Fin .f64 (canon .f64 4562254508917369340) ∧ 576460752303423 * Wu ≤ sv .f64 (canon .f64 4562254508917369340) := by
  refine ⟨dy_m001.1, ?_⟩
  rw [dy_m001.2.2, show zOf .f64 - 62 = 1012 by rw [zOf_64]]
  unfold Wu
  have p3 : ((2 ^ 3 : Nat) : Int) = 8 := rfl
  rw [pow_cast 3 1012 eW (by decide), p3]
  have := Nat.two_pow_pos 1012
  generalize 2 ^ 1012 = z at *
  omega
theorem dy_1001 : Dy .f64 52 4508103226997866 (canon .f64 4607186922399644778) := dyB_spec (by decide +kernel)
theorem c_1001 : Fin .f64 (canon .f64 4607186922399644778) ∧ sv .f64 (canon .f64 4607186922399644778) = 577037213055726848 * Wu := by
  refine ⟨dy_1001.1, ?_⟩
  rw [dy_1001.2.2, show zOf .f64 - 52 = 1022 by rw [zOf_64]]
  unfold Wu
  have p7 : ((2 ^ 7 : Nat) : Int) = 128 := rfl
  rw [pow_cast 7 eW 1022 (by decide), p7]
  generalize ((2 ^ eW : Nat) : Int) = z
  omega
theorem gap_ok {X Y c : Nat} {d : Int} (hX : Fin .f64 X) (hY : Fin .f64 Y) (h1 : sv .f64 X - sv .f64 Y ≤ d) (h2 : -d ≤ sv .f64 X - sv .f64 Y) (hd : d ≤ 9007199254740992 * Hu) (hc : Fin .f64 c) (h : d + Hu ≤ sv .f64 c) :
    fcmp .gtr .f64 (gapW X Y) c = false := by
  have hH := Hu_pos
  unfold gapW
  rw [lss_sv hX hY]
  by_cases g : sv .f64 X < sv .f64 Y
  · rw [decide_eq_true g]
    have z := sub64 hY hX (by omega) (by omega)
    show fcmp .gtr .f64 (fop .sub .f64 Y X) _ = false
    rw [gtr_sv z.1 hc]
    exact decide_eq_false (by omega)
  · rw [decide_eq_false g]
    have z := sub64 hX hY (by omega) (by omega)
    show fcmp .gtr .f64 (fop .sub .f64 X Y) _ = false
    rw [gtr_sv z.1 hc]
    exact decide_eq_false (by omega)
/-- Rain that is drawn. -/
theorem rain_facts {cs : List Int} (hc : Byt cs) {N j : Nat} (hN : N ≤ 64) (hj : j < N) : NN .f32 ((fsR cs N).getD j 0) ∧ vR (fsR cs N) j ≤ 2 * Zu ∧ 4 * vR (fsR cs N) j = drN cs 9 j * Zu ∧ 0 ≤ drN cs 9 j ∧ drN cs 9 j ≤ 8 := by
  have bj := drN_bound hc (n := 9) (by omega) (by omega) (i := j) (by omega)
  have e1 : (fsR cs N).getD j 0 = rnW cs j := tabN_getD (rnW cs) hj 0
  have d := dy_quarters bj.1 (by omega)
  have hf := dy_nn (m := 2) d bj.1 (by show _ ≤ 2 * (4 : Int); omega)
  unfold vR
  rw [e1]
  refine ⟨hf.1, hf.2, ?_, bj.1, by omega⟩
  show 4 * sv .f32 (fop .quo .f32 (foi .f32 (drN cs 9 j)) (canon .f32 1082130432)) = _
  rw [d.2.2, show Zu = 4 * ((2 ^ (zOf .f32 - 2) : Nat) : Int) from pow_cast 2 (zOf .f32 - 2) (zOf .f32) (by rw [zOf_32])]
  rw [Int.mul_left_comm]
theorem rep_nn {n j : Nat} : NN .f32 ((List.replicate n (canon .f32 0)).getD j 0) ∧ vR (List.replicate n (canon .f32 0)) j = 0 := by
  have z := sv_zero
  unfold vR
  rw [List.getD_eq_getElem?_getD, List.getElem?_replicate]
  by_cases h : j < n
  · rw [if_pos h]; exact ⟨⟨z.1, by rw [Option.getD_some, z.2]; exact Int.le_refl _⟩, z.2⟩
  · rw [if_neg h]
    have e : canon .f32 0 = 0 := by decide +kernel
    rw [e] at z
    exact ⟨⟨z.1, by rw [Option.getD_none, z.2]; exact Int.le_refl _⟩, z.2⟩
theorem one_nn : NN .f32 one32 ∧ sv .f32 one32 = Zu := by
  have h := sv_one
  have hz := Zu_q
  have hq := Qu_big
  exact ⟨⟨h.1, by show 0 ≤ sv .f32 (K 1065353216); rw [h.2]; omega⟩, h.2⟩
theorem unit_rain {c : Int} {j : Nat} (hc : 0 < c) : NN .f32 ((ulR c).getD j 0) ∧ vR (ulR c) j = if j = 0 then Zu else 0 := by
  have z := @rep_nn c.toNat j
  unfold vR at *
  unfold ulR
  rw [getD_set' _ _ _ _ (by simp; omega)]
  by_cases h : j = 0
  · subst h; rw [if_pos rfl, if_pos rfl]; exact one_nn
  · rw [if_neg (fun e => h e.symm), if_neg h]; exact z
theorem unit_sum {c : Int} (hc : 0 < c) : ∀ n : Nat, sm (vR (ulR c)) n ≤ Zu
  | 0 => by have hz := Zu_q; have hq := Qu_big; simp only [sm]; omega
  | n + 1 => by
    have h := unit_sum hc n
    rw [sm, (unit_rain (j := n) hc).2]
    by_cases h0 : n = 0
    · subst h0; simp [sm]
    · rw [if_neg h0]; omega
theorem zero_sum {m : Nat} : ∀ n : Nat, sm (vR (List.replicate m (canon .f32 0))) n = 0
  | 0 => rfl
  | n + 1 => by rw [sm, zero_sum n, rep_nn.2]; rfl
noncomputable def eT (t : Nat) : Int := (1024 * (2 * t + 3) + 1) * Qu
section
variable {bs cs : List Int} (hb : Byt bs) (hc : Byt cs) {n N : Nat} (hn : n ≤ 5) (hn0 : 0 < n) (hN : N ≤ 16) (hN0 : 0 < N) {sh : Nat} (hs : Unit .f32 false sh)
theorem nz (n : Nat) : (List.replicate n (canon .f32 0)).length = n := List.length_replicate
include hn hN in
theorem small {a : Int} (h0 : 0 ≤ a) : (N : Int) * (n * (2 * a)) ≤ 160 * a := by
  have h1 : (n : Int) * (2 * a) ≤ 5 * (2 * a) := Int.mul_le_mul_of_nonneg_right (by omega) (by omega)
  have h2 : (N : Int) * (n * (2 * a)) ≤ 16 * (n * (2 * a)) := Int.mul_le_mul_of_nonneg_right (by omega) (Int.mul_nonneg (by omega) (by omega))
  omega
include hc hN in
theorem rain_sum : ∀ t : Nat, t ≤ N → 0 ≤ sm (vR (fsR cs N)) t ∧ sm (vR (fsR cs N)) t ≤ t * (2 * Zu) := fun t ht =>
  ⟨sm_nn t fun i hi => (rain_facts hc (by omega) (by omega)).1.2, sm_le t fun i hi => (rain_facts hc (by omega) (by omega)).2.1⟩
include hb hc hn hN hs in
/-- What runs out of drawn buckets. -/
theorem outs_facts : (∀ b, b < n → NN .f32 (bN sh (fsR bs n) (fsR cs N) N b)) ∧ (∀ t, t < N → NN .f32 (bF sh (fsR bs n) (fsR cs N) t n)) ∧
    sm (vN sh (fsR bs n) (fsR cs N) N) n + sm (fun i => vF sh (fsR bs n) (fsR cs N) i n) N ≤ sm (vR (fsR bs n)) n + sm (vR (fsR cs N)) N + 16777216 * Qu ∧
    sm (vR (fsR bs n)) n + sm (vR (fsR cs N)) N ≤ sm (vN sh (fsR bs n) (fsR cs N) N) n + sm (fun i => vF sh (fsR bs n) (fsR cs N) i n) N + 16777216 * Qu ∧
    sm (vR (fsR bs n)) n ≤ 10 * Zu ∧ sm (vR (fsR cs N)) N ≤ 32 * Zu := by
  have hz := Zu_q
  have hq := Qu_big
  have r1 := rain_sum hc hN N (Nat.le_refl _)
  have r2 := rain_sum hb (N := n) (by omega) n (Nat.le_refl _)
  have k1 : (N : Int) * (2 * Zu) ≤ 16 * (2 * Zu) := Int.mul_le_mul_of_nonneg_right (by omega) (by omega)
  have k2 : (n : Int) * (2 * Zu) ≤ 5 * (2 * Zu) := Int.mul_le_mul_of_nonneg_right (by omega) (by omega)
  have k3 := small hn hN (a := 65537 * Qu) (by omega)
  obtain ⟨⟨m1, m2, m3⟩, m4⟩ := mass (st := fsR bs n) (rs := fsR cs N) (n := n) (N := N) (V := 64 * Zu) (e := 65537 * Qu) (fsR_len bs n) hs (fun b hb' => (rain_facts hb (by omega) hb').1) (fun t ht => (rain_facts hc (by omega) ht).1) (by omega) (by omega) (by omega) (by omega) N (Nat.le_refl _)
  exact ⟨m1, fun t ht => (m4 t ht n (Nat.le_refl _)).1, by omega, by omega, by omega, by omega⟩
include hc hn hN hs in
/-- What runs out of empty buckets. -/
theorem empty_facts : (∀ b, b < n → NN .f32 (bN sh (List.replicate n (canon .f32 0)) (fsR cs N) N b)) ∧ (∀ t, t < N → ∀ k, k ≤ n → NN .f32 (bF sh (List.replicate n (canon .f32 0)) (fsR cs N) t k) ∧ (k < n → NN .f32 (bN sh (List.replicate n (canon .f32 0)) (fsR cs N) t k) ∧ vN sh (List.replicate n (canon .f32 0)) (fsR cs N) t k + vF sh (List.replicate n (canon .f32 0)) (fsR cs N) t k ≤ (2 * t + 3) * Zu)) := by
  have hz := Zu_q
  have hq := Qu_big
  have r1 := rain_sum hc hN N (Nat.le_refl _)
  have k1 : (N : Int) * (2 * Zu) ≤ 16 * (2 * Zu) := Int.mul_le_mul_of_nonneg_right (by omega) (by omega)
  have k3 := small hn hN (a := 65537 * Qu) (by omega)
  have z := zero_sum (m := n) n
  have M := mass (st := List.replicate n (canon .f32 0)) (rs := fsR cs N) (n := n) (N := N) (V := 64 * Zu) (e := 65537 * Qu) (nz n) hs (fun b _ => rep_nn.1) (fun t ht => (rain_facts hc (by omega) ht).1) (by omega) (by omega) (by omega) (by omega)
  refine ⟨(M N (Nat.le_refl _)).1.1, fun t ht k hk => ⟨((M N (Nat.le_refl _)).2 t ht k hk).1, fun hkn => ⟨(M t (by omega)).1.1 k hkn, ?_⟩⟩⟩
  have h := ((M N (Nat.le_refl _)).2 t ht k hk).2 hkn
  have r2 := (rain_sum hc hN (t + 1) (by omega)).2
  have e : ((t + 1 : Nat) : Int) * (2 * Zu) + Zu = (2 * t + 3) * Zu := by
    rw [Int.natCast_add, show ((t : Int) + ((1 : Nat) : Int)) * (2 * Zu) = (2 * t + 2) * Zu by rw [← Int.mul_assoc]; congr 1; omega, show (2 * (t : Int) + 3) = (2 * t + 2) + 1 by omega, Int.add_mul _ 1, Int.one_mul]
  omega
include hn hN hN0 hs in
/-- What runs out of buckets after one fall of one. -/
theorem unit_facts : (∀ b, b < n → NN .f32 (bN sh (List.replicate n (canon .f32 0)) (ulR N) N b)) ∧ (∀ t, t < N → ∀ k, k ≤ n → NN .f32 (bF sh (List.replicate n (canon .f32 0)) (ulR N) t k) ∧ (k < n → NN .f32 (bN sh (List.replicate n (canon .f32 0)) (ulR N) t k) ∧ vN sh (List.replicate n (canon .f32 0)) (ulR N) t k + vF sh (List.replicate n (canon .f32 0)) (ulR N) t k ≤ Zu + 16777216 * Qu)) ∧
    sm (fun i => vF sh (List.replicate n (canon .f32 0)) (ulR N) i n) N ≤ Zu + 16777216 * Qu := by
  have hz := Zu_q
  have hq := Qu_big
  have k3 := small hn hN (a := 2049 * Qu) (by omega)
  have z := zero_sum (m := n) n
  have u := unit_sum (c := N) (by omega) N
  have M := mass (st := List.replicate n (canon .f32 0)) (rs := ulR N) (n := n) (N := N) (V := 2 * Zu) (e := 2049 * Qu) (nz n) hs (fun b _ => rep_nn.1) (fun t ht => (unit_rain (by omega)).1) (by omega) (by omega) (by omega) (by omega)
  refine ⟨(M N (Nat.le_refl _)).1.1, fun t ht k hk => ⟨((M N (Nat.le_refl _)).2 t ht k hk).1, fun hkn => ⟨(M t (by omega)).1.1 k hkn, ?_⟩⟩, ?_⟩
  · have h := ((M N (Nat.le_refl _)).2 t ht k hk).2 hkn
    have u2 := unit_sum (c := N) (by omega) (t + 1)
    omega
  · have h := (M N (Nat.le_refl _)).1
    have h0 := sm_nn (f := vN sh (List.replicate n (canon .f32 0)) (ulR N) N) n fun i hi => (h.1 i hi).2
    omega
end

end Go.Proofs.Ytddedcedkpigkaa
