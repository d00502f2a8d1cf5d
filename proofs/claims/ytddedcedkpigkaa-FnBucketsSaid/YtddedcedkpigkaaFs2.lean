/- What each function of this seat does (Fs2). Printed from templates of this seat's own. -/
import Derived.Test.YtddedcedkpigkaaFs1
namespace Go.Proofs.Ytddedcedkpigkaa
open Go.Ax Go.Bx
set_option maxRecDepth 8000
set_option linter.unusedSimpArgs false
set_option linter.unusedVariables false
theorem fop_lt (op : BinOp) (x y : Nat) : fop op .f32 x y < 2 ^ 32 := by
  unfold fop
  cases h : floatBits op .f32 x y with
  | none => exact qnan_lt .f32
  | some r => exact floatBits_lt h
theorem zero_lt32 : canon .f32 0 < 2 ^ 32 := by decide +kernel
theorem snC_lt (a c f w t : Nat) : snC a c f w t < 2 ^ 32 := by
  unfold snC; cases fcmp .leq .f32 w (canon .f32 0) <;> exact fop_lt _ _ _
theorem snD_lt (a b c d f w t : Nat) (hd : d < 2 ^ 32) : snD a b c d f w t < 2 ^ 32 := by
  unfold snD snD1
  cases snB a b c d f w t
  · cases fcmp .leq .f32 w (canon .f32 0)
    · exact fop_lt _ _ _
    · exact hd
  · exact fop_lt _ _ _
theorem snR_lt (a b c d f w t : Nat) : snR a b c d f w t < 2 ^ 32 := by
  unfold snR snR0
  cases snB a b c d f w t
  · exact zero_lt32
  · exact fop_lt _ _ _
theorem fsS_lt (bs cs : List Int) (N : Nat) : ∀ i, (fsS bs cs N i).1 < 2 ^ 32 ∧ (fsS bs cs N i).2 < 2 ^ 32
  | 0 => ⟨fop_lt _ _ _, fop_lt _ _ _⟩
  | i + 1 => ⟨snC_lt _ _ _ _ _, snD_lt _ _ _ _ _ _ _ (fsS_lt bs cs N i).2⟩
theorem sb_self (x : Nat) : sb x x = true := by simp [sb]
theorem sbL_self (xs : List Nat) : sbL xs xs = true := by
  unfold sbL
  rw [decide_eq_true rfl, Bool.true_and]
  exact allN_iff.2 fun i _ => sb_self _
theorem fsR_len (cs : List Int) (N : Nat) : (fsR cs N).length = N := tabN_len _ _
theorem fsW_len (bs : List Int) (N : Nat) : (fsW bs N).length = N := tabN_len _ _
theorem gap_zero {e : Nat} {Z : Int} {x y : Nat} (hx : Dy .f64 e Z x) (hy : Dy .f64 e Z y) {n m : Nat} {u c : Nat} (he : e ≤ 1074) (hc : Dy .f64 u n c) (hu : u = m) (hn : 0 < n) : fcmp .gtr .f64 (gapW x y) c = false := by
  have h : Dy .f64 e 0 (gapW x y) := by
    unfold gapW
    rw [hx.lss hy, decide_eq_false (by omega), cond_false]
    have := hx.sub hy (by rw [Int.sub_self]; simp)
    rwa [Int.sub_self] at this
  have h0 : Dy .f64 u 0 (gapW x y) := by
    refine ⟨h.1, hc.2.1, ?_⟩
    rw [h.2.2, Int.zero_mul, Int.zero_mul]
  rw [h0.gtr hc]
  exact decide_eq_false (by omega)
theorem dy_001 : Dy .f64 59 5764607523034235 (canon .f64 4576918229304087675) := dyB_spec (by decide +kernel)
theorem dy_0001 : Dy .f64 62 4611686018427388 (canon .f64 4562254508917369340) := dyB_spec (by decide +kernel)

theorem sSameN {a b : Nat} (ha : a < 2 ^ 32) (hb : b < 2 ^ 32) : Does Try.prog 15 [.flt .f32 a, .flt .f32 b] (.bool (sb a b)) := by
  refine Does.of_awp (X := cx 8) Try.func15 rfl (by kernel_rfl) rfl (by simp [cx]) [] rfl ?_
  conv => whnf
  repeat (first
    | (refine ⟨⟨by kernel_rfl, by kernel_rfl⟩, ?_⟩; conv => whnf)
    | (refine And.intro (by first | omega | (simp; done) | (simp; omega)) ?_; conv => whnf)
    | (refine Or.inl (And.intro (by omega) ?_); conv => whnf)
    | (refine Exists.intro _ (And.intro (sSame ha hb) ?_); conv => whnf))
  all_goals (try (conv => whnf))
  all_goals (repeat' (first | exact True.intro | (refine And.intro ?_ ?_ <;> (conv => whnf))))
  all_goals (first | rfl | (simp_all []; done) | (simp only [cond_true, cond_false, Bool.and_true, Bool.true_and, Bool.and_false, Bool.false_and]; rfl) | (simp_all []; omega))

theorem iSameSnow {a b c d : Nat} (ha : a < 2 ^ 32) (hb : b < 2 ^ 32) (hc : c < 2 ^ 32) (hd : d < 2 ^ 32) : Does Try.prog 16 [.agg [.flt .f32 a, .flt .f32 b, .flt .f32 c, .flt .f32 d], .agg [.flt .f32 a, .flt .f32 b, .flt .f32 c, .flt .f32 d]] (.bool true) := by
  have hw : ∀ y ∈ [a, b, c, d], y < 2 ^ 32 := by simp; omega
  have e : ∀ t t', Does Try.prog 36 [.sli .f32 [a, b, c, d] t, .sli .f32 [a, b, c, d] t'] (.bool true) := fun t t' => by
    have := iSameNums (t := t) (t' := t') (by simp) hw hw
    rwa [sbL_self] at this
  refine Does.of_awp (X := cx 24) Try.func16 rfl (by kernel_rfl) rfl (by simp [cx]) [] rfl ?_
  conv => whnf
  repeat (first
    | (refine ⟨⟨by kernel_rfl, by kernel_rfl⟩, ?_⟩; conv => whnf)
    | (refine And.intro (by first | omega | (simp; done) | (simp; omega)) ?_; conv => whnf)
    | (refine Or.inl (And.intro (by omega) ?_); conv => whnf)
    | (refine Exists.intro _ (And.intro (e _ _) ?_); conv => whnf))
  all_goals (try (conv => whnf))
  all_goals (repeat' (first | exact True.intro | (refine And.intro ?_ ?_ <;> (conv => whnf))))
  all_goals (first | rfl | (simp_all []; done) | (simp only [cond_true, cond_false, Bool.and_true, Bool.true_and, Bool.and_false, Bool.false_and]; rfl) | (simp_all []; omega))
section
variable {bs cs : List Int} (hb : Byt bs) (hc : Byt cs) {N : Nat} (hN : N ≤ 16)
include hb
theorem sw_dy : Dy .f32 3 (s1 bs).1 (swA bs) ∧ Dy .f32 2 (s2 bs).1 (swB bs) ∧ Dy .f32 2 (s3 bs).1 (swC bs) ∧ Dy .f32 2 (s4 bs).1 (swD bs) := by
  obtain ⟨q1, q2, q3, q4⟩ := sw_bound hb
  exact ⟨dy_eighths q1.2.1 (by omega), dy_quarters q2.2.1 (by omega), dy_quarters q3.2.1 (by omega), dy_quarters q4.1 (by omega)⟩
include hc hN
theorem snow_ok : rsOk (swA bs) (swB bs) (swC bs) (swD bs) (fsR cs N) (fsW bs N) tk = true := by
  obtain ⟨q1, q2, q3, q4⟩ := sw_bound hb
  have v1 : snV (swA bs) (swB bs) (swC bs) (swD bs) = true := by
    obtain ⟨a1, a2, a3, a4⟩ := sw_dy hb
    unfold snV
    rw [least_dy a1 (by omega) q1.2.1, share_dy a2 q2.2.1 (by omega), least_dy a3 (by omega) q3.2.1, least_dy a4 (by omega) q4.1]
    rfl
  have v2 : rainB (fsR cs N) = true := by
    unfold rainB leastL
    rw [fsR_len, decide_eq_true (by omega), Bool.true_and]
    refine allN_iff.2 fun i hi => ?_
    have bj := drN_bound hc (n := 9) (by omega) (by omega) (i := i) (by omega)
    rw [show (fsR cs N).getD i 0 = rnW cs i from tabN_getD (rnW cs) hi 0]
    exact least_dy (dy_quarters bj.1 (by omega)) (by omega) bj.1
  have v3 : finL (fsW bs N) = true := by
    unfold finL
    rw [fsW_len]
    refine allN_iff.2 fun i hi => ?_
    have bw := atV_bound bs (i + 4) (n := 17) (by omega)
    rw [show (fsW bs N).getD i 0 = fsWk bs i from tabN_getD (fsWk bs) hi 0]
    exact (dy_ints (i := atV bs (i + 4) 17 - 8) (by omega) (by omega)).fin
  have v4 : above tk = true := by
    have h : Dy .f32 2 1 tk := dy_quarter
    unfold above K
    rw [h.fin, h.gtr (dy_zero 2 (by omega))]
    rfl
  have v5 : allN (snOkAt (swA bs) (swB bs) (swC bs) (swD bs) (fsR cs N) (fsW bs N) tk) (fsR cs N).length = true := by
    rw [fsR_len]
    exact allN_iff.2 fun i hi => ((snow_inv hb hc hN N (Nat.le_refl _)).2 i hi).ok
  unfold rsOk
  rw [v1, v2, v3, v4, v5, fsR_len, fsW_len, decide_eq_true rfl]
  rfl
theorem snV_ok : ∀ i, i ≤ N → snV (swA bs) (swB bs) (fsS bs cs N i).1 (fsS bs cs N i).2 = true := fun i hi => by
  obtain ⟨q1, q2, q3, q4⟩ := sw_bound hb
  obtain ⟨⟨C, D, S, T, h1, h2, h3, h4, h5, h6, h7, h8, h9, h10⟩, _⟩ := snow_inv hb hc hN i hi
  obtain ⟨a1, a2, a3, a4⟩ := sw_dy hb
  unfold snV
  rw [least_dy a1 (by omega) q1.2.1, share_dy a2 q2.2.1 (by omega), least_dy h1 (by omega) h6, least_dy h2 (by omega) h7]
  rfl
theorem snow_gap : fcmp .gtr .f64 (gapW (fop .add .f64 (fop .add .f64 (fwiden (swC bs)) (fwiden (swD bs))) (totW (fsR cs N) N)) (fop .add .f64 (fop .add .f64 (fwiden (fsS bs cs N N).1) (fwiden (fsS bs cs N N).2)) (totW (tabN (fsO bs cs N) N) N))) (canon .f64 4576918229304087675) = false := by
  obtain ⟨q1, q2, q3, q4⟩ := sw_bound hb
  obtain ⟨⟨C, D, S, T, h1, h2, h3, h4, h5, h6, h7, h8, h9, h10⟩, _⟩ := snow_inv hb hc hN N (Nat.le_refl _)
  have c1 : Dy .f64 7 ((s3 bs).1 * 32) (fwiden (swC bs)) := (dy_quarters q3.2.1 (by omega)).widen.up 5 (by rw [zOf_64]; omega)
  have c2 : Dy .f64 7 ((s4 bs).1 * 32) (fwiden (swD bs)) := (dy_quarters q4.1 (by omega)).widen.up 5 (by rw [zOf_64]; omega)
  have c3 : Dy .f64 7 (C * 4) (fwiden (fsS bs cs N N).1) := h1.widen.up 2 (by rw [zOf_64]; omega)
  have g1 := (c1.add c2 (by rw [bin64]; omega)).add h3 (by rw [bin64]; omega)
  have g2 := (c3.add h2.widen (by rw [bin64]; omega)).add h4 (by rw [bin64]; omega)
  rw [show (s3 bs).1 * 32 + (s4 bs).1 * 32 + S = C * 4 + D + T by omega] at g1
  exact gap_zero (m := 59) (n := 5764607523034235) g1 g2 (by omega) dy_001 rfl (by omega)
end

theorem lawSnows (bs : List Int) (nb : bs.length < 2 ^ 63) (lb : ∀ y ∈ bs, IntKind.u8.min ≤ y ∧ y ≤ IntKind.u8.max) (cs : List Int) (nc : cs.length < 2 ^ 63) (lc : ∀ y ∈ cs, IntKind.u8.min ≤ y ∧ y ≤ IntKind.u8.max) : Does Try.prog 3 [.sli (.int .u8) bs .undef, .sli (.int .u8) cs .undef] (.bool true) := by
  cases hlong : (decide (1048576 < bs.length) || decide (1048576 < cs.length)) with
  | true =>
    have e0 : ∀ t t', Does Try.prog 6 [.sli (.int .u8) bs t, .sli (.int .u8) cs t'] (.bool true) := fun t t' => hlong ▸ lLong nb nc
    refine Does.of_awp (X := cx 164) Try.func3 rfl (by kernel_rfl) rfl (by simp [cx]) [] rfl ?_
    conv => whnf
    repeat (first
      | (refine ⟨⟨by kernel_rfl, by kernel_rfl⟩, ?_⟩; conv => whnf)
      | (refine And.intro (by first | omega | (simp; done) | (simp; omega)) ?_; conv => whnf)
      | (refine Or.inl (And.intro (by omega) ?_); conv => whnf)
      | (refine Exists.intro _ (And.intro (e0 _ _) ?_); conv => whnf))
    all_goals (try (conv => whnf))
    all_goals (repeat' (first | exact True.intro | (refine And.intro ?_ ?_ <;> (conv => whnf))))
    all_goals (first | rfl | (simp_all []; done) | (simp only [cond_true, cond_false, Bool.and_true, Bool.true_and, Bool.and_false, Bool.false_and]; rfl) | (simp_all []; omega))
  | false =>
  have e0 : ∀ t t', Does Try.prog 6 [.sli (.int .u8) bs t, .sli (.int .u8) cs t'] (.bool false) := fun t t' => hlong ▸ lLong nb nc
  simp only [Bool.or_eq_false_iff, decide_eq_false_iff_not] at hlong
  have u0 : IntKind.u8.min = 0 := by decide +kernel
  have u1 : IntKind.u8.max = 255 := by decide +kernel
  have hb : Byt bs := ⟨fun b h => by have := lb b h; omega, by omega⟩
  have hc : Byt cs := ⟨fun b h => by have := lc b h; omega, by omega⟩
  have bN := atV_bound cs 0 (n := 12) (by omega)
  obtain ⟨N, hNe⟩ : ∃ N : Nat, atV cs 0 12 = (N : Int) := ⟨(atV cs 0 12).toNat, by omega⟩
  have hN : N ≤ 16 := by omega
  have eN : ∀ t, Does Try.prog 8 [.sli (.int .u8) cs t, .int .i64 0, .int .i64 12] (.int .i64 (N : Int)) := fun t => hNe ▸ lAt (i := 0) (n := 12) hc (by omega) (by omega)
  have eS : ∀ t, Does Try.prog 7 [.sli (.int .u8) bs t] (.agg [.flt .f32 (swA bs), .flt .f32 (swB bs), .flt .f32 (swC bs), .flt .f32 (swD bs)]) := fun t => sDrawSnow hb
  have eR : ∀ t, Does Try.prog 9 [.sli (.int .u8) cs t, .int .i64 (N : Int)] (.own 0 .f32 (fsR cs N)) := fun t => sDrawRain hc (by omega)
  have l1 := fsR_len cs N
  have l2 := fsW_len bs N
  have eRun : ∀ t t', Does Try.prog 10 [.agg [.flt .f32 (swA bs), .flt .f32 (swB bs), .flt .f32 (swC bs), .flt .f32 (swD bs)], .sli .f32 (fsR cs N) t, .sli .f32 (fsW bs N) t', .flt .f32 tk] (.tup [.agg [.flt .f32 (swA bs), .flt .f32 (swB bs), .flt .f32 (fsS bs cs N N).1, .flt .f32 (fsS bs cs N N).2], .own 0 .f32 (tabN (fsO bs cs N) N), .bool true]) := fun t t' => by
    have := @iRunSnow (swA bs) (swB bs) (swC bs) (swD bs) tk (fsR cs N) (fsW bs N) t t' (by omega) (by omega)
    unfold rsR rsO at this
    rw [snow_ok hb hc hN, l1] at this
    exact this
  have eV : Does Try.prog 11 [.agg [.flt .f32 (swA bs), .flt .f32 (swB bs), .flt .f32 (fsS bs cs N N).1, .flt .f32 (fsS bs cs N N).2]] (.bool true) := snV_ok hb hc hN N (Nat.le_refl _) ▸ iSnow
  have eT1 : ∀ t, Does Try.prog 13 [.sli .f32 (fsR cs N) t] (.flt .f64 (totW (fsR cs N) N)) := fun t => by
    have := lTotal (xs := fsR cs N) (t := t) (by omega)
    rwa [l1] at this
  have lo : (tabN (fsO bs cs N) N).length = N := tabN_len _ _
  have eT2 : ∀ t, Does Try.prog 13 [.sli .f32 (tabN (fsO bs cs N) N) t] (.flt .f64 (totW (tabN (fsO bs cs N) N) N)) := fun t => by
    have := lTotal (xs := tabN (fsO bs cs N) N) (t := t) (by omega)
    rwa [lo] at this
  have hgap := snow_gap hb hc hN
  refine Does.of_awp (X := cx 164) Try.func3 rfl (by kernel_rfl) rfl (by simp [cx]) [] rfl ?_
  conv => whnf
  repeat (first
    | (refine ⟨⟨by kernel_rfl, by kernel_rfl⟩, ?_⟩; conv => whnf)
    | (refine And.intro (by first | omega | (simp; done) | (simp; omega)) ?_; conv => whnf)
    | (refine Or.inl (And.intro (by omega) ?_); conv => whnf)
    | (refine Exists.intro _ (And.intro (e0 _ _) ?_); conv => whnf)
    | (refine Exists.intro _ (And.intro (eS _) ?_); conv => whnf)
    | (refine Exists.intro _ (And.intro (eN _) ?_); conv => whnf)
    | (refine Exists.intro _ (And.intro (eR _) ?_); conv => whnf))
  refine ⟨Nat, fun i => i ≤ N, fun i => [(0, .sli (.int .u8) bs .undef), (5, .loc 20 0), (6, .int .i64 N), (7, .osl 108), (8, .osl 112), (9, .int .i64 i)], fun i => [(20, .av [.flt .f32 (swA bs), .flt .f32 (swB bs), .flt .f32 (swC bs), .flt .f32 (swD bs)]), (108, .tab .f32 (fsR cs N)), (112, .tab .f32 (tabN (fsWk bs) i))], fun i => N - i, ⟨0, id, Nat.zero_le _, rfl, ⟨rfl, rfl, rfl, rfl, rfl, rfl, trivial⟩, ⟨rfl, rfl, rfl, trivial⟩⟩, fun i hi => ?_⟩
  conv => whnf
  (refine br_intro (fun h => ?_) (fun h => ?_) <;> (conv => whnf))
  · have h : i < N := by simp at h; omega
    have bw := atV_bound bs (i + 4) (n := 17) (by omega)
    have eA : ∀ t, Does Try.prog 8 [.sli (.int .u8) bs t, .int .i64 ((i : Int) + 4), .int .i64 17] (.int .i64 (atV bs (i + 4) 17)) := fun t => lAt (i := i + 4) hb (by omega) (by omega)
    repeat (first
      | (refine ⟨⟨by kernel_rfl, by kernel_rfl⟩, ?_⟩; conv => whnf)
      | (refine And.intro (by first | omega | (simp; done) | (simp; omega)) ?_; conv => whnf)
      | (refine Or.inl (And.intro (by omega) ?_); conv => whnf)
      | (refine Exists.intro _ (And.intro (eA _) ?_); conv => whnf))
    refine ⟨i + 1, ren [(112, 168)], ⟨h, by dsimp only; omega⟩, rfl, ⟨rfl, rfl, rfl, rfl, rfl, rfl, trivial⟩, ⟨rfl, rfl, rfl, trivial⟩⟩
  have h : N = i := by simp at h; omega
  subst h
  repeat (first
    | (refine ⟨⟨by kernel_rfl, by kernel_rfl⟩, ?_⟩; conv => whnf)
    | (refine And.intro (by first | omega | (simp; done) | (simp; omega)) ?_; conv => whnf)
    | (refine Or.inl (And.intro (by omega) ?_); conv => whnf)
    | (refine Exists.intro _ (And.intro (eRun _ _) ?_); conv => whnf)
    | (refine Exists.intro _ (And.intro (eV) ?_); conv => whnf)
    | (refine Exists.intro _ (And.intro (eT1 _) ?_); conv => whnf)
    | (refine Exists.intro _ (And.intro (eT2 _) ?_); conv => whnf)
    | (refine Exists.intro _ (And.intro (lGap) ?_); conv => whnf))
  (refine br_intro (fun hl => ?_) (fun hl => ?_) <;> (conv => whnf))
  · exfalso; simp at hl <;> omega
  repeat (first
    | (refine ⟨⟨by kernel_rfl, by kernel_rfl⟩, ?_⟩; conv => whnf)
    | (refine And.intro (by first | omega | (simp; done) | (simp; omega)) ?_; conv => whnf)
    | (refine Or.inl (And.intro (by omega) ?_); conv => whnf)
    | (refine Exists.intro _ (And.intro (eRun _ _) ?_); conv => whnf)
    | (refine Exists.intro _ (And.intro (eV) ?_); conv => whnf)
    | (refine Exists.intro _ (And.intro (eT1 _) ?_); conv => whnf)
    | (refine Exists.intro _ (And.intro (eT2 _) ?_); conv => whnf)
    | (refine Exists.intro _ (And.intro (lGap) ?_); conv => whnf))
  (refine br_intro (fun hg => ?_) (fun hg => ?_) <;> (conv => whnf))
  · exact absurd (hgap.symm.trans hg) (by simp)
  repeat (first
    | (refine ⟨⟨by kernel_rfl, by kernel_rfl⟩, ?_⟩; conv => whnf)
    | (refine And.intro (by first | omega | (simp; done) | (simp; omega)) ?_; conv => whnf)
    | (refine Or.inl (And.intro (by omega) ?_); conv => whnf))
  refine ⟨Nat, fun i => i ≤ N, fun i => [(6, .int .i64 N), (7, .osl 108), (8, .osl 112), (10, .loc 40 0), (11, .osl 188), (13, .loc 52 0), (14, .int .i64 i)], fun i => [(108, .tab .f32 (fsR cs N)), (112, .tab .f32 (fsW bs N)), (188, .tab .f32 (tabN (fsO bs cs N) N)), (40, .av [.flt .f32 (swA bs), .flt .f32 (swB bs), .flt .f32 (fsS bs cs N N).1, .flt .f32 (fsS bs cs N N).2]), (52, .av [.flt .f32 (swA bs), .flt .f32 (swB bs), .flt .f32 (fsS bs cs N i).1, .flt .f32 (fsS bs cs N i).2])], fun i => N - i, ⟨0, id, Nat.zero_le _, rfl, ⟨rfl, rfl, rfl, rfl, rfl, rfl, rfl, trivial⟩, ⟨rfl, rfl, rfl, rfl, rfl, trivial⟩⟩, fun i hi => ?_⟩
  conv => whnf
  (refine br_intro (fun h => ?_) (fun h => ?_) <;> (conv => whnf))
  · have h : i < N := by simp at h; omega
    have bw := atV_bound bs (i + 4) (n := 17) (by omega)
    have bj := drN_bound hc (n := 9) (by omega) (by omega) (i := i) (by omega)
    obtain ⟨_, hall⟩ := snow_inv hb hc hN N (Nat.le_refl _)
    have hs := hall i h
    have e1 : (fsR cs N).getD i 0 = rnW cs i := tabN_getD (rnW cs) h 0
    have e2 : (fsW bs N).getD i 0 = fsWk bs i := tabN_getD (fsWk bs) h 0
    have e3 : (tabN (fsO bs cs N) N).getD i 0 = fsO bs cs N i := tabN_getD (fsO bs cs N) h 0
    have hF : least ((fsR cs N).getD i 0) = true := by rw [e1]; exact least_dy (dy_quarters bj.1 (by omega)) (by omega) bj.1
    have hW : fin ((fsW bs N).getD i 0) = true := by rw [e2]; exact (dy_ints (i := atV bs (i + 4) 17 - 8) (by omega) (by omega)).fin
    have hT : above tk = true := by
      have h : Dy .f32 2 1 tk := dy_quarter
      unfold above K
      rw [h.fin, h.gtr (dy_zero 2 (by omega))]
      rfl
    have eSt := iStepSnow (snV_ok hb hc hN i (by omega)) hF hW hT
    have hok := hs.ok
    unfold snOkAt at hok
    rw [snStep, show snOk (swA bs) (swB bs) (fsS bs cs N i).1 (fsS bs cs N i).2 ((fsR cs N).getD i 0) ((fsW bs N).getD i 0) tk = true from hok] at eSt
    simp only [sel, cond_true] at eSt
    have eSt : Does Try.prog 14 [.agg [.flt .f32 (swA bs), .flt .f32 (swB bs), .flt .f32 (fsS bs cs N i).1, .flt .f32 (fsS bs cs N i).2], .flt .f32 ((fsR cs N).getD i 0), .flt .f32 ((fsW bs N).getD i 0), .flt .f32 tk] (.tup [.agg [.flt .f32 (swA bs), .flt .f32 (swB bs), .flt .f32 (fsS bs cs N (i + 1)).1, .flt .f32 (fsS bs cs N (i + 1)).2], .flt .f32 (fsO bs cs N i), .bool true]) := eSt
    have ho : fsO bs cs N i < 2 ^ 32 := snR_lt _ _ _ _ _ _ _
    have eSN : Does Try.prog 15 [.flt .f32 (fsO bs cs N i), .flt .f32 ((tabN (fsO bs cs N) N).getD i 0)] (.bool true) := by
      rw [e3]
      have := sSameN ho ho
      rwa [sb_self] at this
    have hcold : fcmp .leq .f32 ((fsW bs N).getD i 0) (canon .f32 0) = true → fcmp .gtr .f64 (gapW (fwiden (fsS bs cs N (i + 1)).1) (fop .add .f64 (fwiden (fsS bs cs N i).1) (fwiden ((fsR cs N).getD i 0)))) (canon .f64 4562254508917369340) = false := fun hc => by
      rw [e2] at hc
      rw [e1]
      obtain ⟨Z, z1, z2⟩ := hs.cold hc
      exact gap_zero (m := 62) (n := 4611686018427388) z1 z2 (by omega) dy_0001 rfl (by omega)
    have hwarm : fcmp .gtr .f32 ((fsW bs N).getD i 0) (canon .f32 0) = true → fcmp .gtr .f32 (fsS bs cs N (i + 1)).1 (fsS bs cs N i).1 = false := fun hc => by
      rw [e2] at hc
      exact hs.warm hc
    have hpos := hs.pos
    have fin1 : ∀ {b : Bool}, b = false → b = true → False := fun h g => by rw [h] at g; cases g
    repeat (first
      | (refine ⟨⟨by kernel_rfl, by kernel_rfl⟩, ?_⟩; conv => whnf)
      | (refine And.intro (by first | omega | (simp; done) | (simp; omega)) ?_; conv => whnf)
      | (refine Or.inl (And.intro (by omega) ?_); conv => whnf)
      | (refine Exists.intro _ (And.intro (eSt) ?_); conv => whnf)
      | (refine Exists.intro _ (And.intro (eSN) ?_); conv => whnf)
      | (refine Exists.intro _ (And.intro (lGap) ?_); conv => whnf))
    (refine br_intro (fun c1 => ?_) (fun c1 => ?_) <;> (conv => whnf))
    · exact (fin1 hpos c1).elim
    repeat (first
      | (refine ⟨⟨by kernel_rfl, by kernel_rfl⟩, ?_⟩; conv => whnf)
      | (refine And.intro (by first | omega | (simp; done) | (simp; omega)) ?_; conv => whnf)
      | (refine Or.inl (And.intro (by omega) ?_); conv => whnf)
      | (refine Exists.intro _ (And.intro (eSt) ?_); conv => whnf)
      | (refine Exists.intro _ (And.intro (eSN) ?_); conv => whnf)
      | (refine Exists.intro _ (And.intro (lGap) ?_); conv => whnf))
    (refine br_intro (fun c2 => ?_) (fun c2 => ?_) <;> (conv => whnf))
    · have g2 := hcold c2
      repeat (first
        | (refine ⟨⟨by kernel_rfl, by kernel_rfl⟩, ?_⟩; conv => whnf)
        | (refine And.intro (by first | omega | (simp; done) | (simp; omega)) ?_; conv => whnf)
        | (refine Or.inl (And.intro (by omega) ?_); conv => whnf)
        | (refine Exists.intro _ (And.intro (eSt) ?_); conv => whnf)
        | (refine Exists.intro _ (And.intro (eSN) ?_); conv => whnf)
        | (refine Exists.intro _ (And.intro (lGap) ?_); conv => whnf))
      (refine br_intro (fun c3 => ?_) (fun c3 => ?_) <;> (conv => whnf))
      · exact (fin1 g2 c3).elim
      repeat (first
        | (refine ⟨⟨by kernel_rfl, by kernel_rfl⟩, ?_⟩; conv => whnf)
        | (refine And.intro (by first | omega | (simp; done) | (simp; omega)) ?_; conv => whnf)
        | (refine Or.inl (And.intro (by omega) ?_); conv => whnf)
        | (refine Exists.intro _ (And.intro (eSt) ?_); conv => whnf)
        | (refine Exists.intro _ (And.intro (eSN) ?_); conv => whnf)
        | (refine Exists.intro _ (And.intro (lGap) ?_); conv => whnf))
      (refine br_intro (fun c4 => ?_) (fun c4 => ?_) <;> (conv => whnf))
      · have g4 := hwarm c4
        repeat (first
          | (refine ⟨⟨by kernel_rfl, by kernel_rfl⟩, ?_⟩; conv => whnf)
          | (refine And.intro (by first | omega | (simp; done) | (simp; omega)) ?_; conv => whnf)
          | (refine Or.inl (And.intro (by omega) ?_); conv => whnf)
          | (refine Exists.intro _ (And.intro (eSt) ?_); conv => whnf)
          | (refine Exists.intro _ (And.intro (eSN) ?_); conv => whnf)
          | (refine Exists.intro _ (And.intro (lGap) ?_); conv => whnf))
        (refine br_intro (fun c5 => ?_) (fun c5 => ?_) <;> (conv => whnf))
        · exact (fin1 g4 c5).elim
        repeat (first
          | (refine ⟨⟨by kernel_rfl, by kernel_rfl⟩, ?_⟩; conv => whnf)
          | (refine And.intro (by first | omega | (simp; done) | (simp; omega)) ?_; conv => whnf)
          | (refine Or.inl (And.intro (by omega) ?_); conv => whnf))
        refine ⟨i + 1, id, ⟨h, by dsimp only; omega⟩, rfl, ⟨rfl, rfl, rfl, rfl, rfl, rfl, rfl, trivial⟩, ⟨rfl, rfl, rfl, rfl, rfl, trivial⟩⟩
      · repeat (first
          | (refine ⟨⟨by kernel_rfl, by kernel_rfl⟩, ?_⟩; conv => whnf)
          | (refine And.intro (by first | omega | (simp; done) | (simp; omega)) ?_; conv => whnf)
          | (refine Or.inl (And.intro (by omega) ?_); conv => whnf))
        refine ⟨i + 1, id, ⟨h, by dsimp only; omega⟩, rfl, ⟨rfl, rfl, rfl, rfl, rfl, rfl, rfl, trivial⟩, ⟨rfl, rfl, rfl, rfl, rfl, trivial⟩⟩
    · repeat (first
        | (refine ⟨⟨by kernel_rfl, by kernel_rfl⟩, ?_⟩; conv => whnf)
        | (refine And.intro (by first | omega | (simp; done) | (simp; omega)) ?_; conv => whnf)
        | (refine Or.inl (And.intro (by omega) ?_); conv => whnf)
        | (refine Exists.intro _ (And.intro (eSt) ?_); conv => whnf)
        | (refine Exists.intro _ (And.intro (eSN) ?_); conv => whnf)
        | (refine Exists.intro _ (And.intro (lGap) ?_); conv => whnf))
      (refine br_intro (fun c4 => ?_) (fun c4 => ?_) <;> (conv => whnf))
      · have g4 := hwarm c4
        repeat (first
          | (refine ⟨⟨by kernel_rfl, by kernel_rfl⟩, ?_⟩; conv => whnf)
          | (refine And.intro (by first | omega | (simp; done) | (simp; omega)) ?_; conv => whnf)
          | (refine Or.inl (And.intro (by omega) ?_); conv => whnf)
          | (refine Exists.intro _ (And.intro (eSt) ?_); conv => whnf)
          | (refine Exists.intro _ (And.intro (eSN) ?_); conv => whnf)
          | (refine Exists.intro _ (And.intro (lGap) ?_); conv => whnf))
        (refine br_intro (fun c5 => ?_) (fun c5 => ?_) <;> (conv => whnf))
        · exact (fin1 g4 c5).elim
        repeat (first
          | (refine ⟨⟨by kernel_rfl, by kernel_rfl⟩, ?_⟩; conv => whnf)
          | (refine And.intro (by first | omega | (simp; done) | (simp; omega)) ?_; conv => whnf)
          | (refine Or.inl (And.intro (by omega) ?_); conv => whnf))
        refine ⟨i + 1, id, ⟨h, by dsimp only; omega⟩, rfl, ⟨rfl, rfl, rfl, rfl, rfl, rfl, rfl, trivial⟩, ⟨rfl, rfl, rfl, rfl, rfl, trivial⟩⟩
      · repeat (first
          | (refine ⟨⟨by kernel_rfl, by kernel_rfl⟩, ?_⟩; conv => whnf)
          | (refine And.intro (by first | omega | (simp; done) | (simp; omega)) ?_; conv => whnf)
          | (refine Or.inl (And.intro (by omega) ?_); conv => whnf))
        refine ⟨i + 1, id, ⟨h, by dsimp only; omega⟩, rfl, ⟨rfl, rfl, rfl, rfl, rfl, rfl, rfl, trivial⟩, ⟨rfl, rfl, rfl, rfl, rfl, trivial⟩⟩
  have h : i = N := by simp at h; omega
  subst h
  have lt := fsS_lt bs cs i i
  repeat (first
    | (refine ⟨⟨by kernel_rfl, by kernel_rfl⟩, ?_⟩; conv => whnf)
    | (refine And.intro (by first | omega | (simp; done) | (simp; omega)) ?_; conv => whnf)
    | (refine Or.inl (And.intro (by omega) ?_); conv => whnf)
    | (refine Exists.intro _ (And.intro (iSameSnow (fop_lt _ _ _) (fop_lt _ _ _) lt.1 lt.2) ?_); conv => whnf))
  all_goals (try (conv => whnf))
  all_goals (repeat' (first | exact True.intro | (refine And.intro ?_ ?_ <;> (conv => whnf))))
  all_goals (first | rfl | (simp_all []; done) | (simp only [cond_true, cond_false, Bool.and_true, Bool.true_and, Bool.and_false, Bool.false_and]; rfl) | (simp_all []; omega))

end Go.Proofs.Ytddedcedkpigkaa
