/- What each function of this seat does (St7). Printed from templates of this seat's own. -/
import Derived.Test.YtnepjbnoaemmdaaSt6
namespace Go.Proofs.Ytnepjbnoaemmdaa
open Go.Ax Go.Bx
set_option maxRecDepth 8000
set_option linter.unusedSimpArgs false
set_option linter.unusedVariables false
theorem c_001w : sv .f64 (canon .f64 4562254508917369340) ≤ 576460752303424 * Wu := by
  rw [dy_m001.2.2, show zOf .f64 - 62 = 1012 by rw [zOf_64]]
  unfold Wu
  have p3 : ((2 ^ 3 : Nat) : Int) = 8 := rfl
  rw [pow_cast 3 1012 eW (by decide), p3]
  have := Nat.two_pow_pos 1012
  generalize 2 ^ 1012 = z at *
  omega
noncomputable def tF (s : S4) (k : Nat) : Nat := fop .add .f32 s.1 (fop .quo .f32 (fop .mul .f32 s.2.1 (foi .f32 (k : Int))) (canon .f32 1090519040))
noncomputable def bfr (s : S4) : Nat → Nat
  | 0 => canon .f32 0
  | k + 1 => stF s (tF s k)
theorem not_low {x y : Nat} (hx : Go.Ax.NN .f32 x) (hy : Go.Ax.NN .f32 y) (hb : sv .f32 y ≤ 8 * Zu) (h : sv .f32 y ≤ sv .f32 x) : fcmp .lss .f64 (fwiden x) (fop .sub .f64 (fwiden y) (canon .f64 4562254508917369340)) = false := by
  have hH := Hu_eq
  have hW := Wu_pos
  obtain ⟨c1, c2⟩ := c_001
  have c3 := c_001w
  have l1 := wv_leZ hy.1 hb
  have l0 := wv_nn hy
  have l2 := wv_le hy.1 hx.1 h
  have v1 : sv .f64 (fwiden x) = wv x := rfl
  have v2 : sv .f64 (fwiden y) = wv y := rfl
  have s1 := sub64 (widen_val hy.1).1 c1 (by rw [v2]; omega) (by rw [v2]; omega)
  rw [v2] at s1
  rw [lss_sv (widen_val hx.1).1 s1.1, v1]
  exact decide_eq_false (by omega)
theorem not_high {x y : Nat} (hx : Go.Ax.NN .f32 x) (hy : Go.Ax.NN .f32 y) (hb : sv .f32 y ≤ 8 * Zu) (h : sv .f32 x ≤ sv .f32 y) : fcmp .gtr .f64 (fwiden x) (fop .add .f64 (fwiden y) (canon .f64 4562254508917369340)) = false := by
  have hH := Hu_eq
  have hW := Wu_pos
  obtain ⟨c1, c2⟩ := c_001
  have c3 := c_001w
  have l1 := wv_leZ hy.1 hb
  have l0 := wv_nn hy
  have l2 := wv_le hx.1 hy.1 h
  have v1 : sv .f64 (fwiden x) = wv x := rfl
  have v2 : sv .f64 (fwiden y) = wv y := rfl
  have s1 := add64 (widen_val hy.1).1 c1 (by rw [v2]; omega) (by rw [v2]; omega)
  rw [v2] at s1
  rw [gtr_sv (widen_val hx.1).1 s1.1, v1]
  exact decide_eq_false (by omega)
/-- What the law asks of one storm. -/
structure StOk (s : S4) : Prop where
  v : stV s = true
  f : ∀ k, k < 9 → fin (tF s k) = true
  n : ∀ k, k < 9 → Go.Ax.NN .f32 (stF s (tF s k))
  r1 : ∀ k, k < 9 → fcmp .lss .f32 (stT s (tF s k)) (canon .f32 0) = false
  r2 : ∀ k, k < 9 → fcmp .gtr .f32 (stT s (tF s k)) (canon .f32 1065353216) = false
  r3 : ∀ k, k < 9 → Go.Ax.NN .f32 (raR s (tF s k))
  lo : ∀ k, k < 9 → fcmp .lss .f64 (fwiden (stF s (tF s k))) (fop .sub .f64 (fwiden (bfr s k)) (canon .f64 4562254508917369340)) = false
  hi : ∀ k, k < 9 → fcmp .gtr .f64 (fwiden (stF s (tF s k))) (fop .add .f64 (fwiden s.2.2.1) (canon .f64 4562254508917369340)) = false
  e1 : fin (fop .add .f32 (fop .add .f32 s.1 s.2.1) (canon .f32 1065353216)) = true
  e2 : stF s (fop .add .f32 (fop .add .f32 s.1 s.2.1) (canon .f32 1065353216)) = s.2.2.1
  e3 : stF s s.1 = canon .f32 0
  e4 : fin s.1 = true
  sz : Go.Ax.NN .f32 s.2.2.1
theorem st_ok {a b c d : Nat} (ha : a < 17) (hb : b < 12) (hc : c < 17) (hd : d < 7) : StOk (sT a b c d) := by
  have eT : ∀ k, tF (sT a b c d) k = tmK a b k := fun k => by unfold tF tmK; rw [foi_eq]; rfl
  obtain ⟨s1, s2, s3⟩ := sT_size hc
  obtain ⟨q1, q2, q3⟩ := sT_ends (c := c) (d := d) ha hb
  have hz := Zu_pos
  have z := sv_zero
  have n0 : Go.Ax.NN .f32 (canon .f32 0) := ⟨z.1, by rw [z.2]; exact Int.le_refl _⟩
  refine ⟨sT_valid ha hb hc hd, fun k hk => ?_, fun k hk => ?_, fun k hk => ?_, fun k hk => ?_, fun k hk => ?_, fun k hk => ?_, fun k hk => ?_, q1, q2, q3, fin_nn (sT_start ha).1, s1⟩
  · rw [eT]; exact (sT_time (c := c) (d := d) ha hb hk).2
  · rw [eT]; exact (sT_eight ha hb hc hd hk).1
  · rw [eT]; exact (sT_rate ha hb hc hd hk).1
  · rw [eT]; exact (sT_rate ha hb hc hd hk).2.1
  · rw [eT]; exact (sT_rate ha hb hc hd hk).2.2
  · cases k with
    | zero => exact not_low (by rw [eT]; exact (sT_eight ha hb hc hd hk).1) n0 (by show sv .f32 (canon .f32 0) ≤ _; rw [z.2]; omega) (by show sv .f32 (canon .f32 0) ≤ _; rw [z.2, eT]; exact (sT_eight ha hb hc hd hk).1.2)
    | succ k =>
      have h1 := sT_eight ha hb hc hd hk
      have h2 := sT_eight ha hb hc hd (k := k) (by omega)
      have h3 := h1.2.2
      rw [Nat.add_sub_cancel] at h3
      show fcmp .lss .f64 (fwiden (stF (sT a b c d) (tF (sT a b c d) (k + 1)))) (fop .sub .f64 (fwiden (stF (sT a b c d) (tF (sT a b c d) k))) _) = false
      rw [eT, eT]
      exact not_low h1.1 h2.1 (by have := h2.2.1; omega) h3
  · have h1 := sT_eight ha hb hc hd hk
    rw [eT]
    exact not_high h1.1 s1 (by show sv .f32 (qN c) ≤ _; omega) h1.2.1
theorem st_drawn {bs : List Int} (hb : Byt bs) {i : Nat} (hi : i < btN bs) : StOk ((btL bs).getD i z4) := by
  have hn := btN_le hb
  obtain ⟨a, b, c, d, ha, hb', hc, hd, e⟩ := bt_sT hb (i := i) (by omega)
  rw [btL_at hi, e]
  exact st_ok ha hb' hc hd
theorem neq_00 : fcmp .neq .f32 (canon .f32 0) (canon .f32 0) = false := by decide +kernel

set_option maxHeartbeats 800000 in
theorem lawStorms (bs : List Int) (nb : bs.length < 2 ^ 63) (lb : ∀ y ∈ bs, IntKind.u8.min ≤ y ∧ y ≤ IntKind.u8.max) (cs : List Int) (nc : cs.length < 2 ^ 63) (lc : ∀ y ∈ cs, IntKind.u8.min ≤ y ∧ y ≤ IntKind.u8.max) : Does Try.prog 4 [.sli (.int .u8) bs .undef, .sli (.int .u8) cs .undef] (.bool true) := by
  cases hlong : (decide (1048576 < bs.length) || decide (1048576 < cs.length)) with
  | true =>
    have e0 : ∀ t t', Does Try.prog 5 [.sli (.int .u8) bs t, .sli (.int .u8) cs t'] (.bool true) := fun t t' => hlong ▸ lLong nb nc
    refine Does.of_awp (X := cx 272) Try.func4 rfl (by kernel_rfl) rfl (by simp [cx]) [] rfl ?_
    conv => whnf
    repeat (first
      | (refine ⟨⟨by kernel_rfl, by kernel_rfl⟩, ?_⟩; conv => whnf)
      | (refine And.intro (by first | omega | (simp; done) | (simp; omega)) ?_; conv => whnf)
      | (refine Or.inl (And.intro (by omega) ?_); conv => whnf)
      | (refine Exists.intro _ (And.intro (e0 _ _) ?_); conv => whnf))
    all_goals (try (conv => whnf))
    all_goals (repeat' (first | exact True.intro | (refine And.intro ?_ ?_ <;> (conv => whnf))))
    all_goals (first | rfl | (simp_all []; done) | (simp only [cond_true, cond_false, Bool.and_true, Bool.true_and, Bool.and_false, Bool.false_and]; rfl) | (simp_all []; omega))
  | false =>
  have e0 : ∀ t t', Does Try.prog 5 [.sli (.int .u8) bs t, .sli (.int .u8) cs t'] (.bool false) := fun t t' => hlong ▸ lLong nb nc
  simp only [Bool.or_eq_false_iff, decide_eq_false_iff_not] at hlong
  have u0 : IntKind.u8.min = 0 := by decide +kernel
  have u1 : IntKind.u8.max = 255 := by decide +kernel
  have hb : Byt bs := ⟨fun b h => by have := lb b h; omega, by omega⟩
  have hc : Byt cs := ⟨fun b h => by have := lc b h; omega, by omega⟩
  have b0 := atV_bound cs 0 (n := 8) (by omega)
  have b1 := atV_bound cs 1 (n := 8) (by omega)
  obtain ⟨n, hn⟩ : ∃ n : Nat, atV cs 1 8 = (n : Int) := ⟨(atV cs 1 8).toNat, by omega⟩
  have hn8 : n ≤ 8 := by omega
  have a0 : ∀ t, Does Try.prog 6 [.sli (.int .u8) cs t, .int .i64 0, .int .i64 8] (.int .i64 (atV cs 0 8)) := fun t => lAt (i := 0) (n := 8) hc (by omega) (by omega)
  have a1 : ∀ t, Does Try.prog 6 [.sli (.int .u8) cs t, .int .i64 1, .int .i64 8] (.int .i64 (n : Int)) := fun t => hn ▸ lAt (i := 1) (n := 8) hc (by omega) (by omega)
  have sd := (bsd_bound hc).2
  have a2 : ∀ t, Does Try.prog 20 [.sli (.int .u8) cs t] (.int .i64 (bsd cs)) := fun t => sSeed hc
  have a3 : ∀ t, Does Try.prog 10 [.sli (.int .u8) bs t] (.own 0 .f4 (btL bs)) := fun t => sDrawStorms hb
  have hN := btN_le hb
  have lL := btL_len (bs := bs)
  have a4 : ∀ t, Does Try.prog 14 [.sli .f4 (btL bs) t, .flt .f32 tk2, .int .i64 40] (.tup [.own 0 .f32 (rnL bs), .bool true]) := fun t => by
    have := @iRainList (btL bs) t tk2 40 (by omega)
    rw [rnO_eq hb, (storms_ok hb).2] at this
    exact this
  have a5 : ∀ t, Does Try.prog 15 [.sli .f4 (btL bs) t, .flt .f32 tk2, .int .i64 40, .int .i64 (1 + atV cs 0 8)] (.tup [.own 0 .f32 (rnL bs), .bool true]) := fun t => by
    have := @iRainSharedT (btL bs) t tk2 40 (1 + atV cs 0 8) (by omega) (by simp [inR]; omega)
    rw [rnO_eq hb, (storms_ok hb).2] at this
    exact this
  have lR := rnL_len bs
  have rw32 : ∀ y ∈ rnL bs, y < 2 ^ 32 := fun y hy => by
    obtain ⟨i, hi, e⟩ := List.getElem_of_mem hy
    have h40 : i < 40 := by omega
    have := rnL_at (bs := bs) h40
    rw [List.getD_eq_getElem?_getD, List.getElem?_eq_getElem hi, Option.getD_some, e] at this
    rw [this]
    have : ∀ m, rlAt (btL bs) tk2 (i : Int) m < 2 ^ 32 := fun m => by
      induction m with
      | zero => show canon .f32 0 < _; decide +kernel
      | succ m ih =>
        rw [rlAt]
        cases fcmp .gtr .f32 (rlD ((btL bs).getD m z4) tk2 (i : Int)) (canon .f32 0)
        · exact ih
        · exact fop_lt _ _ _
    exact this _
  have a6 : ∀ t t', Does Try.prog 16 [.sli .f32 (rnL bs) t, .sli .f32 (rnL bs) t'] (.bool true) := fun t t' => lB10List (by omega) rw32
  have a7 : ∀ t, Does Try.prog 17 [.sli .f32 (rnL bs) t] (.bool true) := fun t => rn_rain hb ▸ iIsRain (by omega)
  have a8 : ∀ t, Does Try.prog 19 [.sli .f32 (rnL bs) t] (.flt .f64 (totW (rnL bs) 40)) := fun t => by
    have := lTotal (xs := rnL bs) (t := t) (by omega)
    rwa [lR] at this
  have gap := storms_gap hb
  have a9 : Does Try.prog 21 [.int .i64 (n : Int), .flt .f32 (canon .f32 1082130432), .flt .f32 (canon .f32 1073741824), .int .i64 (bsd cs)] (.tup [.own 0 .f4 (tabN (soL lo4 si2 (bsd cs)) n), .int .i64 (soSt lo4 (bsd cs) n).2, .bool true]) := by
    have := @iStormsOf (n : Int) (bsd cs) lo4 si2
    unfold soO soS at this
    rw [so_C sd hn8, cond_true, cond_true, Int.toNat_natCast] at this
    exact this
  have a10 : Does Try.prog 22 [.int .i64 (n : Int), .flt .f32 (canon .f32 1082130432), .flt .f32 (canon .f32 1073741824), .int .i64 (bsd cs)] (.tup [.own 0 .f4 (tabN (soL lo4 si2 (bsd cs)) n), .int .i64 (soSt lo4 (bsd cs) n).2, .bool true]) := by
    have := @sStormsOf (n : Int) (bsd cs) lo4 si2
    unfold soO soS at this
    rw [so_C sd hn8, cond_true, cond_true, Int.toNat_natCast] at this
    exact this
  have lD : (tabN (soL lo4 si2 (bsd cs)) n).length = n := tabN_len _ _
  have wD : ∀ y ∈ tabN (soL lo4 si2 (bsd cs)) n, W4 y := fun y hy => by
    obtain ⟨i, hi, e⟩ := List.getElem_of_mem hy
    have := tabN_getD (soL lo4 si2 (bsd cs)) (show i < n by omega) z4
    rw [List.getD_eq_getElem?_getD, List.getElem?_eq_getElem hi, Option.getD_some, e] at this
    rw [this]; exact soL_W4 _ _
  have a11 : ∀ t t', Does Try.prog 23 [.sli .f4 (tabN (soL lo4 si2 (bsd cs)) n) t, .sli .f4 (tabN (soL lo4 si2 (bsd cs)) n) t'] (.bool true) := fun t t' => by
    have := @iSameStorms _ _ t t' (show (tabN (soL lo4 si2 (bsd cs)) n).length ≤ 1048576 by omega) wD wD
    rwa [sameSS_self] at this
  have dAt : ∀ i, i < n → (tabN (soL lo4 si2 (bsd cs)) n).getD i z4 = soL lo4 si2 (bsd cs) i := fun i hi => tabN_getD (soL lo4 si2 (bsd cs)) hi z4
  have fin1 : ∀ {b : Bool}, b = false → b = true → False := fun h g => by rw [h] at g; cases g
  clear rw32
  generalize rnL bs = RL at *
  generalize totW RL 40 = W at *
  refine Does.of_awp (X := cx 272) Try.func4 rfl (by kernel_rfl) rfl (by simp [cx]) [] rfl ?_
  conv => whnf
  repeat (first
    | (refine ⟨⟨by kernel_rfl, by kernel_rfl⟩, ?_⟩; conv => whnf)
    | (refine And.intro (by first | omega | (simp; done) | (simp; omega)) ?_; conv => whnf)
    | (refine Or.inl (And.intro (by omega) ?_); conv => whnf)
    | (refine Exists.intro _ (And.intro (e0 _ _) ?_); conv => whnf)
    | (refine Exists.intro _ (And.intro (a3 _) ?_); conv => whnf))
  refine ⟨Nat, fun i => i ≤ btN bs, fun i => [(1, .sli (.int .u8) cs .undef), (5, .osl 148), (6, .flt .f64 (totW (szL bs) i)), (39, .int .i64 (btN bs)), (40, .int .i64 i)], fun i => [(148, .tab .f4 (btL bs))], fun i => btN bs - i, ⟨0, id, Nat.zero_le _, rfl, ⟨rfl, rfl, rfl, congrArg (AV.int .i64) (by rw [lL]), rfl, trivial⟩, ⟨rfl, trivial⟩⟩, fun i hi => ?_⟩
  conv => whnf
  (refine br_intro (fun h => ?_) (fun h => ?_) <;> (conv => whnf))
  · have h : i < btN bs := by simp at h; omega
    have ok := st_drawn hb h
    have eSz : fop .add .f64 (totW (szL bs) i) (fwiden ((btL bs).getD i z4).2.2.1) = totW (szL bs) (i + 1) := by
      rw [totW, szL_at h, btL_at h]
    repeat (first
      | (refine ⟨⟨by kernel_rfl, by kernel_rfl⟩, ?_⟩; conv => whnf)
      | (refine And.intro (by first | omega | (simp; done) | (simp; omega)) ?_; conv => whnf)
      | (refine Or.inl (And.intro (by omega) ?_); conv => whnf))
    refine ⟨Nat, fun k => k ≤ 9, fun k => [(1, .sli (.int .u8) cs .undef), (5, .osl 148), (6, .flt .f64 (totW (szL bs) (i + 1))), (7, .int .i64 i), (8, .loc 32 0), (9, .flt .f32 (bfr ((btL bs).getD i z4) k)), (10, .int .i64 k), (39, .int .i64 (btN bs)), (40, .int .i64 i)], fun k => [(148, .tab .f4 (btL bs)), (32, .av [.flt .f32 ((btL bs).getD i z4).1, .flt .f32 ((btL bs).getD i z4).2.1, .flt .f32 ((btL bs).getD i z4).2.2.1, .flt .f32 ((btL bs).getD i z4).2.2.2])], fun k => 9 - k, ⟨0, id, Nat.zero_le _, rfl, ⟨rfl, rfl, congrArg (AV.flt .f64) eSz, rfl, rfl, rfl, rfl, rfl, rfl, trivial⟩, ⟨rfl, rfl, trivial⟩⟩, fun k hk => ?_⟩
    conv => whnf
    (refine br_intro (fun g => ?_) (fun g => ?_) <;> (conv => whnf))
    · have g : k < 9 := by simp at g; omega
      have c1 := iFallenBy (s := (btL bs).getD i z4) ok.v (ok.f k g) (fin_nn (ok.n k g))
      have c2 := iRainAt (s := (btL bs).getD i z4) ok.v (ok.f k g) (ok.r1 k g) (ok.r2 k g) (fin_nn (ok.r3 k g))
      have d1 : fcmp .lss .f32 (raR ((btL bs).getD i z4) (tF ((btL bs).getD i z4) k)) (canon .f32 0) = false := by
        have := ok.r3 k g
        rw [lss_sv this.1 sv_zero.1, sv_zero.2]; exact decide_eq_false (by have := this.2; omega)
      have d2 := ok.lo k g
      have d3 := ok.hi k g
      repeat (first
        | (refine ⟨⟨by kernel_rfl, by kernel_rfl⟩, ?_⟩; conv => whnf)
        | (refine And.intro (by first | omega | (simp; done) | (simp; omega)) ?_; conv => whnf)
        | (refine Or.inl (And.intro (by omega) ?_); conv => whnf)
        | (refine Exists.intro _ (And.intro (c1) ?_); conv => whnf)
        | (refine Exists.intro _ (And.intro (c2) ?_); conv => whnf))
      (refine br_intro (fun x1 => ?_) (fun x1 => ?_) <;> (conv => whnf))
      · exact (fin1 d1 x1).elim
      repeat (first
        | (refine ⟨⟨by kernel_rfl, by kernel_rfl⟩, ?_⟩; conv => whnf)
        | (refine And.intro (by first | omega | (simp; done) | (simp; omega)) ?_; conv => whnf)
        | (refine Or.inl (And.intro (by omega) ?_); conv => whnf))
      (refine br_intro (fun x2 => ?_) (fun x2 => ?_) <;> (conv => whnf))
      · exact (fin1 d2 x2).elim
      repeat (first
        | (refine ⟨⟨by kernel_rfl, by kernel_rfl⟩, ?_⟩; conv => whnf)
        | (refine And.intro (by first | omega | (simp; done) | (simp; omega)) ?_; conv => whnf)
        | (refine Or.inl (And.intro (by omega) ?_); conv => whnf))
      (refine br_intro (fun x3 => ?_) (fun x3 => ?_) <;> (conv => whnf))
      · exact (fin1 d3 x3).elim
      repeat (first
        | (refine ⟨⟨by kernel_rfl, by kernel_rfl⟩, ?_⟩; conv => whnf)
        | (refine And.intro (by first | omega | (simp; done) | (simp; omega)) ?_; conv => whnf)
        | (refine Or.inl (And.intro (by omega) ?_); conv => whnf))
      refine ⟨k + 1, id, ⟨g, by dsimp only; omega⟩, rfl, ⟨rfl, rfl, rfl, rfl, rfl, rfl, rfl, rfl, rfl, trivial⟩, ⟨rfl, rfl, trivial⟩⟩
    have g : k = 9 := by simp at g; omega
    subst g
    have c1 := iFallenBy (s := (btL bs).getD i z4) ok.v ok.e1 (by rw [ok.e2]; exact fin_nn ok.sz)
    rw [ok.e2] at c1
    have c2 := iFallenBy (s := (btL bs).getD i z4) ok.v ok.e4 (by rw [ok.e3]; exact fin_nn (x := canon .f32 0) ⟨sv_zero.1, by rw [sv_zero.2]; exact Int.le_refl _⟩)
    rw [ok.e3] at c2
    have c3 : Does Try.prog 13 [.agg [.flt .f32 ((btL bs).getD i z4).1, .flt .f32 ((btL bs).getD i z4).2.1, .flt .f32 ((btL bs).getD i z4).2.2.1, .flt .f32 ((btL bs).getD i z4).2.2.2]] (.bool true) := ok.v ▸ iStorm (s := (btL bs).getD i z4)
    have d1 : fcmp .neq .f32 ((btL bs).getD i z4).2.2.1 ((btL bs).getD i z4).2.2.1 = false := by rw [neq_self]; exact ok.sz.1.num
    repeat (first
      | (refine ⟨⟨by kernel_rfl, by kernel_rfl⟩, ?_⟩; conv => whnf)
      | (refine And.intro (by first | omega | (simp; done) | (simp; omega)) ?_; conv => whnf)
      | (refine Or.inl (And.intro (by omega) ?_); conv => whnf)
      | (refine Exists.intro _ (And.intro (c1) ?_); conv => whnf)
      | (refine Exists.intro _ (And.intro (c2) ?_); conv => whnf)
      | (refine Exists.intro _ (And.intro (c3) ?_); conv => whnf))
    (refine br_intro (fun x1 => ?_) (fun x1 => ?_) <;> (conv => whnf))
    · exact (fin1 d1 x1).elim
    repeat (first
      | (refine ⟨⟨by kernel_rfl, by kernel_rfl⟩, ?_⟩; conv => whnf)
      | (refine And.intro (by first | omega | (simp; done) | (simp; omega)) ?_; conv => whnf)
      | (refine Or.inl (And.intro (by omega) ?_); conv => whnf)
      | (refine Exists.intro _ (And.intro (c3) ?_); conv => whnf))
    refine ⟨i + 1, id, ⟨h, by dsimp only; omega⟩, rfl, ⟨rfl, rfl, rfl, rfl, rfl, trivial⟩, ⟨rfl, trivial⟩⟩
  have h : i = btN bs := by simp at h; omega
  subst h
  as_aux_lemma =>
    repeat (first
      | (refine ⟨⟨by kernel_rfl, by kernel_rfl⟩, ?_⟩; conv => whnf)
      | (refine And.intro (by first | omega | (simp; done) | (simp; omega)) ?_; conv => whnf)
      | (refine Or.inl (And.intro (by omega) ?_); conv => whnf)
      | (refine Exists.intro _ (And.intro (a4 _) ?_); conv => whnf)
      | (refine Exists.intro _ (And.intro (a0 _) ?_); conv => whnf)
      | (refine Exists.intro _ (And.intro (a5 _) ?_); conv => whnf)
      | (refine Exists.intro _ (And.intro (a6 _ _) ?_); conv => whnf)
      | (refine Exists.intro _ (And.intro (a7 _) ?_); conv => whnf)
      | (refine Exists.intro _ (And.intro (a8 _) ?_); conv => whnf)
      | (refine Exists.intro _ (And.intro (lGap) ?_); conv => whnf))
    (refine br_intro (fun x1 => ?_) (fun x1 => ?_) <;> (conv => whnf))
    · exfalso; simp at x1 <;> omega
    repeat (first
      | (refine ⟨⟨by kernel_rfl, by kernel_rfl⟩, ?_⟩; conv => whnf)
      | (refine And.intro (by first | omega | (simp; done) | (simp; omega)) ?_; conv => whnf)
      | (refine Or.inl (And.intro (by omega) ?_); conv => whnf)
      | (refine Exists.intro _ (And.intro (a6 _ _) ?_); conv => whnf)
      | (refine Exists.intro _ (And.intro (a7 _) ?_); conv => whnf)
      | (refine Exists.intro _ (And.intro (a8 _) ?_); conv => whnf)
      | (refine Exists.intro _ (And.intro (lGap) ?_); conv => whnf))
    (refine br_intro (fun x2 => ?_) (fun x2 => ?_) <;> (conv => whnf))
    · exact (fin1 gap x2).elim
    repeat (first
      | (refine ⟨⟨by kernel_rfl, by kernel_rfl⟩, ?_⟩; conv => whnf)
      | (refine And.intro (by first | omega | (simp; done) | (simp; omega)) ?_; conv => whnf)
      | (refine Or.inl (And.intro (by omega) ?_); conv => whnf)
      | (refine Exists.intro _ (And.intro (a1 _) ?_); conv => whnf)
      | (refine Exists.intro _ (And.intro (a2 _) ?_); conv => whnf)
      | (refine Exists.intro _ (And.intro (a9) ?_); conv => whnf)
      | (refine Exists.intro _ (And.intro (a10) ?_); conv => whnf))
    (refine br_intro (fun x3 => ?_) (fun x3 => ?_) <;> (conv => whnf))
    · exfalso; simp at x3 <;> omega
    repeat (first
      | (refine ⟨⟨by kernel_rfl, by kernel_rfl⟩, ?_⟩; conv => whnf)
      | (refine And.intro (by first | omega | (simp; done) | (simp; omega)) ?_; conv => whnf)
      | (refine Or.inl (And.intro (by omega) ?_); conv => whnf))
    (refine br_intro (fun x4 => ?_) (fun x4 => ?_) <;> (conv => whnf))
    · exfalso; simp at x4
    repeat (first
      | (refine ⟨⟨by kernel_rfl, by kernel_rfl⟩, ?_⟩; conv => whnf)
      | (refine And.intro (by first | omega | (simp; done) | (simp; omega)) ?_; conv => whnf)
      | (refine Or.inl (And.intro (by omega) ?_); conv => whnf)
      | (refine Exists.intro _ (And.intro (a11 _ _) ?_); conv => whnf))
    refine ⟨Nat, fun i => i ≤ n, fun i => [(26, .osl 788), (228, .int .i64 n), (229, .int .i64 i)], fun i => [(788, .tab .f4 (tabN (soL lo4 si2 (bsd cs)) n))], fun i => n - i, ⟨0, id, Nat.zero_le _, rfl, ⟨rfl, congrArg (AV.int .i64) (by rw [lD]), rfl, trivial⟩, ⟨rfl, trivial⟩⟩, fun i hi => ?_⟩
    conv => whnf
    (refine br_intro (fun h => ?_) (fun h => ?_) <;> (conv => whnf))
    · have h : i < n := by simp at h; omega
      obtain ⟨v1, v2, v3⟩ := so_valid (s0 := bsd cs) (j := i) (by omega)
      rw [← dAt i h] at v1 v2
      have c1 : Does Try.prog 13 [.agg [.flt .f32 ((tabN (soL lo4 si2 (bsd cs)) n).getD i z4).1, .flt .f32 ((tabN (soL lo4 si2 (bsd cs)) n).getD i z4).2.1, .flt .f32 ((tabN (soL lo4 si2 (bsd cs)) n).getD i z4).2.2.1, .flt .f32 ((tabN (soL lo4 si2 (bsd cs)) n).getD i z4).2.2.2]] (.bool true) := v1 ▸ iStorm (s := (tabN (soL lo4 si2 (bsd cs)) n).getD i z4)
      have v4 : 0 < i → fcmp .lss .f32 ((tabN (soL lo4 si2 (bsd cs)) n).getD i z4).1 (fop .add .f32 ((tabN (soL lo4 si2 (bsd cs)) n).getD (i - 1) z4).1 ((tabN (soL lo4 si2 (bsd cs)) n).getD (i - 1) z4).2.1) = false := fun h0 => by
        rw [dAt i h, dAt (i - 1) (by omega)]; exact v3 h0
      repeat (first
        | (refine ⟨⟨by kernel_rfl, by kernel_rfl⟩, ?_⟩; conv => whnf)
        | (refine And.intro (by first | omega | (simp; done) | (simp; omega)) ?_; conv => whnf)
        | (refine Or.inl (And.intro (by omega) ?_); conv => whnf)
        | (refine Exists.intro _ (And.intro (c1) ?_); conv => whnf))
      (refine br_intro (fun y1 => ?_) (fun y1 => ?_) <;> (conv => whnf))
      · exact (fin1 v2 y1).elim
      repeat (first
        | (refine ⟨⟨by kernel_rfl, by kernel_rfl⟩, ?_⟩; conv => whnf)
        | (refine And.intro (by first | omega | (simp; done) | (simp; omega)) ?_; conv => whnf)
        | (refine Or.inl (And.intro (by omega) ?_); conv => whnf))
      (refine br_intro (fun y2 => ?_) (fun y2 => ?_) <;> (conv => whnf))
      · have y2 : 0 < i := by simp at y2; omega
        have v4 := v4 y2
        rw [show i - 1 = ((i : Int) - 1).toNat by omega] at v4
        repeat (first
          | (refine ⟨⟨by kernel_rfl, by kernel_rfl⟩, ?_⟩; conv => whnf)
          | (refine And.intro (by first | omega | (simp; done) | (simp; omega)) ?_; conv => whnf)
          | (refine Or.inl (And.intro (by omega) ?_); conv => whnf))
        (refine br_intro (fun y3 => ?_) (fun y3 => ?_) <;> (conv => whnf))
        · exact (fin1 v4 y3).elim
        repeat (first
          | (refine ⟨⟨by kernel_rfl, by kernel_rfl⟩, ?_⟩; conv => whnf)
          | (refine And.intro (by first | omega | (simp; done) | (simp; omega)) ?_; conv => whnf)
          | (refine Or.inl (And.intro (by omega) ?_); conv => whnf))
        refine ⟨i + 1, id, ⟨h, by dsimp only; omega⟩, rfl, ⟨rfl, rfl, rfl, trivial⟩, ⟨rfl, trivial⟩⟩
      · repeat (first
          | (refine ⟨⟨by kernel_rfl, by kernel_rfl⟩, ?_⟩; conv => whnf)
          | (refine And.intro (by first | omega | (simp; done) | (simp; omega)) ?_; conv => whnf)
          | (refine Or.inl (And.intro (by omega) ?_); conv => whnf))
        refine ⟨i + 1, id, ⟨h, by dsimp only; omega⟩, rfl, ⟨rfl, rfl, rfl, trivial⟩, ⟨rfl, trivial⟩⟩

end Go.Proofs.Ytnepjbnoaemmdaa
