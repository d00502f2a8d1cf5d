/- What each function of this seat does (Nr6). Printed from templates of this seat's own. -/
import Derived.Test.YtnepjbnoaemmdaaNr5
import Derived.Test.YtnepjbnoaemmdaaNr4
namespace Go.Proofs.Ytnepjbnoaemmdaa
open Go.Ax Go.Bx
set_option maxRecDepth 8000
set_option linter.unusedSimpArgs false
set_option linter.unusedVariables false
noncomputable def nfW (bs : List Int) (k : Nat) : Nat := fop .quo .f32 (foi .f32 (atV bs k 17)) (canon .f32 1073741824)
noncomputable def nfL (bs : List Int) : List Nat := tabN (nfW bs) 4
noncomputable def naX (cs : List Int) (i : Nat) : Nat := fop .quo .f32 (foi .f32 (atV cs i 33 - 16)) (canon .f32 1082130432)
noncomputable def nlo (bs : List Int) : Nat → Nat
  | 0 => nfW bs 0
  | i + 1 => fminA .f32 (nlo bs i) ((nfL bs).getD i 0)
noncomputable def nhi (bs : List Int) : Nat → Nat
  | 0 => nfW bs 0
  | i + 1 => fmaxA .f32 (nhi bs i) ((nfL bs).getD i 0)
theorem nf_nn {bs : List Int} (k : Nat) : NN .f32 (nfW bs k) ∧ sv .f32 (nfW bs k) ≤ 8 * Zu := by
  have b := atV_bound bs k (n := 17) (by omega)
  exact dy_nn (m := 8) (dy_halves b.1 (by omega)) b.1 (by show _ ≤ 8 * (2 : Int); omega)
theorem nf_at {bs : List Int} {k : Nat} (h : k < 4) : (nfL bs).getD k 0 = nfW bs k := tabN_getD (nfW bs) h 0
theorem nlo_facts {bs : List Int} : ∀ i, i ≤ 4 → (∃ k, nlo bs i = nfW bs k) ∧ ∀ j, j < i → sv .f32 (nlo bs i) ≤ sv .f32 (nfW bs j)
  | 0, _ => ⟨⟨0, rfl⟩, fun j hj => absurd hj (by omega)⟩
  | i + 1, h => by
    obtain ⟨⟨k, h1⟩, h2⟩ := nlo_facts (bs := bs) i (by omega)
    have e : (nfL bs).getD i 0 = nfW bs i := nf_at (by omega)
    have f := fmin_sv (x := nlo bs i) (y := nfW bs i) (by rw [h1]; exact (nf_nn k).1.1) (nf_nn i).1.1
    rw [nlo, e]
    refine ⟨?_, fun j hj => ?_⟩
    · rcases f.1 with g | g
      · exact ⟨k, by rw [g, h1]⟩
      · exact ⟨i, g⟩
    · by_cases hj' : j = i
      · rw [hj']; exact f.2.2
      · exact Int.le_trans f.2.1 (h2 j (by omega))
theorem nhi_facts {bs : List Int} : ∀ i, i ≤ 4 → (∃ k, nhi bs i = nfW bs k) ∧ ∀ j, j < i → sv .f32 (nfW bs j) ≤ sv .f32 (nhi bs i)
  | 0, _ => ⟨⟨0, rfl⟩, fun j hj => absurd hj (by omega)⟩
  | i + 1, h => by
    obtain ⟨⟨k, h1⟩, h2⟩ := nhi_facts (bs := bs) i (by omega)
    have e : (nfL bs).getD i 0 = nfW bs i := nf_at (by omega)
    have f := fmax_sv (x := nhi bs i) (y := nfW bs i) (by rw [h1]; exact (nf_nn k).1.1) (nf_nn i).1.1
    rw [nhi, e]
    refine ⟨?_, fun j hj => ?_⟩
    · rcases f.1 with g | g
      · exact ⟨k, by rw [g, h1]⟩
      · exact ⟨i, g⟩
    · by_cases hj' : j = i
      · rw [hj']; exact f.2.2
      · exact Int.le_trans (h2 j (by omega)) f.2.1
/-- The two tests of what is told of a place. -/
def nrOk (bs : List Int) (q : Nat) : Prop := fcmp .lss .f64 (fwiden q) (fop .sub .f64 (fwiden (nlo bs 4)) (canon .f64 4562254508917369340)) = false ∧ fcmp .gtr .f64 (fwiden q) (fop .add .f64 (fwiden (nhi bs 4)) (canon .f64 4562254508917369340)) = false
theorem c_001u : sv .f64 (canon .f64 4562254508917369340) ≤ 576460752303424 * Wu := by
  rw [dy_m001.2.2, show zOf .f64 - 62 = 1012 by rw [zOf_64]]
  unfold Wu
  have p3 : ((2 ^ 3 : Nat) : Int) = 8 := rfl
  rw [pow_cast 3 1012 eW (by decide), p3]
  have := Nat.two_pow_pos 1012
  generalize 2 ^ 1012 = z at *
  omega
theorem nr_ok {bs : List Int} {q : Nat} (hq : NN .f32 q) (h1 : 32768 * sv .f32 q ≤ 32769 * sv .f32 (nhi bs 4) + Qu) (h2 : 32767 * sv .f32 (nlo bs 4) ≤ 32768 * sv .f32 q + Qu) : nrOk bs q := by
  obtain ⟨⟨k1, e1⟩, _⟩ := nlo_facts (bs := bs) 4 (Nat.le_refl _)
  obtain ⟨⟨k2, e2⟩, _⟩ := nhi_facts (bs := bs) 4 (Nat.le_refl _)
  have hz := Zu_q
  have hQ := QP
  have hH := Hu_eq
  have hW := Wu_pos
  obtain ⟨c1, c2⟩ := c_001
  have c3 := c_001u
  have n1 := nf_nn (bs := bs) k1
  have n2 := nf_nn (bs := bs) k2
  rw [← e1] at n1
  rw [← e2] at n2
  have P0 := Int.le_of_lt PU_pos
  have l1 := wv_leZ n1.1.1 n1.2
  have l2 := wv_leZ n2.1.1 n2.2
  have l0 := wv_nn n1.1
  have l3 := wv_nn n2.1
  have m1 := Int.mul_le_mul_of_nonneg_right h1 P0
  have m2 := Int.mul_le_mul_of_nonneg_right h2 P0
  simp only [Int.add_mul, Int.mul_assoc, hQ, ← wv_eq hq.1, ← wv_eq n1.1.1, ← wv_eq n2.1.1] at m1 m2
  have v1 : sv .f64 (fwiden q) = wv q := rfl
  have v2 : sv .f64 (fwiden (nlo bs 4)) = wv (nlo bs 4) := rfl
  have v3 : sv .f64 (fwiden (nhi bs 4)) = wv (nhi bs 4) := rfl
  have s1 := sub64 (widen_val n1.1.1).1 c1 (by rw [v2]; omega) (by rw [v2]; omega)
  have s2 := add64 (widen_val n2.1.1).1 c1 (by rw [v3]; omega) (by rw [v3]; omega)
  rw [v2] at s1
  rw [v3] at s2
  refine ⟨?_, ?_⟩
  · rw [lss_sv (widen_val hq.1).1 s1.1, v1]
    exact decide_eq_false (by omega)
  · rw [gtr_sv (widen_val hq.1).1 s2.1, v1]
    exact decide_eq_false (by omega)
theorem nf_fin (bs : List Int) : finL (nfL bs) = true := by
  unfold finL
  exact allN_iff.2 fun i hi => by rw [nf_at (by simpa [nfL, tabN_len] using hi)]; exact fin_nn (nf_nn i).1
/-- What is told of any of the places at hand. -/
theorem near_told {bs : List Int} {a : Nat × Nat} (h : nrT a = true) : ∃ q, nrOk bs q ∧ ∀ t t', Does Try.prog 7 [.sli .c64 psL t, .sli .f32 (nfL bs) t', .cpx .f32 a.1 a.2] (.tup [.flt .f32 q, .bool true]) := by
  have H := nr_hyp h (show (nfL bs).length = 4 from tabN_len _ _) (nf_fin bs)
  have hz := Zu_q
  have hq := Qu_big
  obtain ⟨⟨k1, e1⟩, lo⟩ := nlo_facts (bs := bs) 4 (Nat.le_refl _)
  obtain ⟨⟨k2, e2⟩, hi⟩ := nhi_facts (bs := bs) 4 (Nat.le_refl _)
  have n1 := nf_nn (bs := bs) k1
  have n2 := nf_nn (bs := bs) k2
  rw [← e1] at n1
  rw [← e2] at n2
  by_cases hex : ∃ k, k < 4 ∧ nrZ psL a k = true ∧ ∀ j, j < k → nrZ psL a j = false
  · obtain ⟨k, hk, z1, z2⟩ := hex
    refine ⟨(nfL bs).getD k 0, ?_, fun t t' => iNearAt H hk z1 z2⟩
    rw [nf_at hk]
    have := lo k hk
    have := hi k hk
    have := n1.1.2
    have := (nf_nn (bs := bs) k).1.2
    exact nr_ok (nf_nn k).1 (by omega) (by omega)
  · have hall : ∀ k, k ≤ 4 → ∀ j, j < k → nrZ psL a j = false := by
      intro k
      induction k with
      | zero => intro _ j hj; exact absurd hj (by omega)
      | succ k ih =>
        intro hk j hj
        by_cases e : j = k
        · subst e
          cases hz : nrZ psL a j with
          | false => rfl
          | true => exact (hex ⟨j, by omega, hz, fun i hi => ih (by omega) i hi⟩).elim
        · exact ih (by omega) j (by omega)
    have hz4 := hall 4 (Nat.le_refl _)
    have b := nr_between (a := a) (fs := nfL bs) (H := sv .f32 (nhi bs 4)) (L := sv .f32 (nlo bs 4)) (fun i hi => nr_w h hz4 hi) (fun i hi' => by
      rw [nf_at hi']; exact ⟨(nf_nn i).1, hi i hi', lo i hi'⟩) n2.2 n1.1.2
    exact ⟨nrQ psL (nfL bs) a, nr_ok b.1 b.2.1 b.2.2, fun t t' => iNearAll H hz4 (fin_nn b.1)⟩
theorem near_own {bs : List Int} {i : Nat} (hi : i < 4) (t t' : AV) : Does Try.prog 7 [.sli .c64 psL t, .sli .f32 (nfL bs) t', .cpx .f32 (psL.getD i (0, 0)).1 (psL.getD i (0, 0)).2] (.tup [.flt .f32 ((nfL bs).getD i 0), .bool true]) := by
  have h := of_tab tab_own hi
  simp only [Bool.and_eq_true] at h
  obtain ⟨h1, h2, h3⟩ := h
  exact iNearAt (nr_hyp h1 (show (nfL bs).length = 4 from tabN_len _ _) (nf_fin bs)) hi h2 fun j hj => by
    have := of_tab h3 hj
    simpa using this
theorem na_tab (cs : List Int) : nrT (naX cs 0, naX cs 1) = true := by
  have b0 := atV_bound cs 0 (n := 33) (by omega)
  have b1 := atV_bound cs 1 (n := 33) (by omega)
  obtain ⟨v, hv⟩ : ∃ v : Nat, atV cs 0 33 = (v : Int) := ⟨(atV cs 0 33).toNat, by omega⟩
  obtain ⟨w, hw⟩ : ∃ w : Nat, atV cs 1 33 = (w : Int) := ⟨(atV cs 1 33).toNat, by omega⟩
  have := tab_at (v := v) (w := w) (by omega) (by omega)
  unfold naX
  rw [hv, hw, foi_eq, foi_eq]
  exact this

theorem lawNearRains (bs : List Int) (nb : bs.length < 2 ^ 63) (lb : ∀ y ∈ bs, IntKind.u8.min ≤ y ∧ y ≤ IntKind.u8.max) (cs : List Int) (nc : cs.length < 2 ^ 63) (lc : ∀ y ∈ cs, IntKind.u8.min ≤ y ∧ y ≤ IntKind.u8.max) : Does Try.prog 3 [.sli (.int .u8) bs .undef, .sli (.int .u8) cs .undef] (.bool true) := by
  cases hlong : (decide (1048576 < bs.length) || decide (1048576 < cs.length)) with
  | true =>
    have e0 : ∀ t t', Does Try.prog 5 [.sli (.int .u8) bs t, .sli (.int .u8) cs t'] (.bool true) := fun t t' => hlong ▸ lLong nb nc
    refine Does.of_awp (X := cx 213) Try.func3 rfl (by kernel_rfl) rfl (by simp [cx]) [] rfl ?_
    conv => whnf
    repeat (first
      | (refine ⟨⟨by kernel_rfl, by kernel_rfl⟩, ?_⟩; conv => whnf)
      | (refine And.intro (by first | omega | (simp; done) | (simp; omega)) ?_; conv => whnf)
      | (refine Or.inl (And.intro (by omega) ?_); conv => whnf)
      | (refine Exists.intro _ (And.intro (e0 _ _) ?_); conv => whnf))
    all_goals (try (conv => whnf))
    all_goals (repeat' (first | exact True.intro | (refine And.intro ?_ ?_ <;> (conv => whnf))))
    all_goals (first | rfl | (simp_all []; done) | (simp only [cond_true, cond_false, Bool.and_true, Bool.true_and, Bool.and_false, Bool.false_and]; rfl) | (simp_all []; omega))
  | false =>
  have e0 : ∀ t t', Does Try.prog 5 [.sli (.int .u8) bs t, .sli (.int .u8) cs t'] (.bool false) := fun t t' => hlong ▸ lLong nb nc
  simp only [Bool.or_eq_false_iff, decide_eq_false_iff_not] at hlong
  have u0 : IntKind.u8.min = 0 := by decide +kernel
  have u1 : IntKind.u8.max = 255 := by decide +kernel
  have hb : Byt bs := ⟨fun b h => by have := lb b h; omega, by omega⟩
  have hc : Byt cs := ⟨fun b h => by have := lc b h; omega, by omega⟩
  have b0 := atV_bound cs 0 (n := 33) (by omega)
  have b1 := atV_bound cs 1 (n := 33) (by omega)
  have b2 := atV_bound cs 2 (n := 4) (by omega)
  have b3 := atV_bound cs 3 (n := 20) (by omega)
  have b4 := atV_bound cs 4 (n := 9) (by omega)
  have a0 : ∀ t, Does Try.prog 6 [.sli (.int .u8) cs t, .int .i64 0, .int .i64 33] (.int .i64 (atV cs 0 33)) := fun t => lAt (i := 0) (n := 33) hc (by omega) (by omega)
  have a1 : ∀ t, Does Try.prog 6 [.sli (.int .u8) cs t, .int .i64 1, .int .i64 33] (.int .i64 (atV cs 1 33)) := fun t => lAt (i := 1) (n := 33) hc (by omega) (by omega)
  have a2 : ∀ t, Does Try.prog 6 [.sli (.int .u8) cs t, .int .i64 2, .int .i64 4] (.int .i64 (atV cs 2 4)) := fun t => lAt (i := 2) (n := 4) hc (by omega) (by omega)
  have a3 : ∀ t, Does Try.prog 6 [.sli (.int .u8) cs t, .int .i64 3, .int .i64 20] (.int .i64 (atV cs 3 20)) := fun t => lAt (i := 3) (n := 20) hc (by omega) (by omega)
  have a4 : ∀ t, Does Try.prog 6 [.sli (.int .u8) cs t, .int .i64 4, .int .i64 9] (.int .i64 (atV cs 4 9)) := fun t => lAt (i := 4) (n := 9) hc (by omega) (by omega)
  obtain ⟨q, hqo, eq⟩ := near_told (bs := bs) (na_tab cs)
  obtain ⟨p, hp⟩ : ∃ p : Nat, atV cs 2 4 = (p : Int) := ⟨(atV cs 2 4).toNat, by omega⟩
  have hp4 : p < 4 := by omega
  obtain ⟨N, hN⟩ : ∃ N : Nat, 1 + atV cs 3 20 = (N : Int) := ⟨(1 + atV cs 3 20).toNat, by omega⟩
  have hN20 : N ≤ 20 := by omega
  have lN := fsR_len bs N
  have e4 : ∀ t, Does Try.prog 8 [.sli (.int .u8) bs t, .int .i64 (1 + atV cs 3 20)] (.own 0 .f32 (fsR bs N)) := fun t => by rw [hN]; exact sDrawRain hb (by omega)
  have own := fun t t' => near_own (bs := bs) hp4 t t'
  rw [hp] at a2
  refine Does.of_awp (X := cx 213) Try.func3 rfl (by kernel_rfl) rfl (by simp [cx]) [] rfl ?_
  conv => whnf
  repeat (first
    | (refine ⟨⟨by kernel_rfl, by kernel_rfl⟩, ?_⟩; conv => whnf)
    | (refine And.intro (by first | omega | (simp; done) | (simp; omega)) ?_; conv => whnf)
    | (refine Or.inl (And.intro (by omega) ?_); conv => whnf)
    | (refine Exists.intro _ (And.intro (e0 _ _) ?_); conv => whnf))
  refine ⟨Nat, fun k => k ≤ 4, fun k => [(0, .sli (.int .u8) bs .undef), (1, .sli (.int .u8) cs .undef), (5, .osl 108), (6, .osl 112), (7, .int .i64 k)], fun k => [(108, .tab .c64 psL), (112, .tab .f32 (tabN (nfW bs) k))], fun k => 4 - k, ⟨0, id, Nat.zero_le _, rfl, ⟨rfl, rfl, rfl, rfl, rfl, trivial⟩, ⟨rfl, rfl, trivial⟩⟩, fun k hk => ?_⟩
  conv => whnf
  (refine br_intro (fun h => ?_) (fun h => ?_) <;> (conv => whnf))
  · have h : k < 4 := by simp at h; omega
    have ak : ∀ t, Does Try.prog 6 [.sli (.int .u8) bs t, .int .i64 (k : Int), .int .i64 17] (.int .i64 (atV bs k 17)) := fun t => lAt (i := k) (n := 17) hb (by omega) (by omega)
    have bk := atV_bound bs k (n := 17) (by omega)
    repeat (first
      | (refine ⟨⟨by kernel_rfl, by kernel_rfl⟩, ?_⟩; conv => whnf)
      | (refine And.intro (by first | omega | (simp; done) | (simp; omega)) ?_; conv => whnf)
      | (refine Or.inl (And.intro (by omega) ?_); conv => whnf)
      | (refine Exists.intro _ (And.intro (ak _) ?_); conv => whnf))
    refine ⟨k + 1, ren [(112, 160)], ⟨h, by dsimp only; omega⟩, rfl, ⟨rfl, rfl, rfl, rfl, rfl, trivial⟩, ⟨rfl, rfl, trivial⟩⟩
  have h : k = 4 := by simp at h; omega
  subst h
  have lp : psL.length = 4 := rfl
  have lf : (tabN (nfW bs) 4).length = 4 := tabN_len _ _
  have ne : fcmp .neq .f32 ((nfL bs).getD p 0) ((tabN (nfW bs) 4).getD p 0) = false := by
    show fcmp .neq .f32 ((nfL bs).getD p 0) ((nfL bs).getD p 0) = false
    rw [neq_self, nf_at hp4]; exact (nf_nn p).1.1.num
  have z0 : (tabN (nfW bs) 4).getD 0 0 = nfW bs 0 := nf_at (by omega)
  have fin1 : ∀ {b : Bool}, b = false → b = true → False := fun h g => by rw [h] at g; cases g
  repeat (first
    | (refine ⟨⟨by kernel_rfl, by kernel_rfl⟩, ?_⟩; conv => whnf)
    | (refine And.intro (by first | omega | (simp; done) | (simp; omega)) ?_; conv => whnf)
    | (refine Or.inl (And.intro (by omega) ?_); conv => whnf)
    | (refine Exists.intro _ (And.intro (a0 _) ?_); conv => whnf)
    | (refine Exists.intro _ (And.intro (a1 _) ?_); conv => whnf)
    | (refine Exists.intro _ (And.intro (a2 _) ?_); conv => whnf)
    | (refine Exists.intro _ (And.intro (eq _ _) ?_); conv => whnf)
    | (refine Exists.intro _ (And.intro (own _ _) ?_); conv => whnf))
  refine ⟨Nat, fun k => k ≤ 4, fun k => [(0, .sli (.int .u8) bs .undef), (1, .sli (.int .u8) cs .undef), (6, .osl 112), (9, .flt .f32 q), (10, .bool true), (11, .int .i64 p), (12, .flt .f32 ((nfL bs).getD p 0)), (13, .bool true), (14, .flt .f32 (nlo bs k)), (15, .flt .f32 (nhi bs k)), (78, .int .i64 4), (79, .int .i64 k)], fun k => [(112, .tab .f32 (tabN (nfW bs) 4))], fun k => 4 - k, ⟨0, id, Nat.zero_le _, rfl, ⟨rfl, rfl, rfl, rfl, rfl, rfl, rfl, rfl, congrArg (AV.flt .f32) z0, congrArg (AV.flt .f32) z0, congrArg (AV.int .i64) (by rw [lf]; rfl), rfl, trivial⟩, ⟨rfl, trivial⟩⟩, fun k hk => ?_⟩
  conv => whnf
  (refine br_intro (fun h => ?_) (fun h => ?_) <;> (conv => whnf))
  · have h : k < 4 := by simp at h; omega
    repeat (first
      | (refine ⟨⟨by kernel_rfl, by kernel_rfl⟩, ?_⟩; conv => whnf)
      | (refine And.intro (by first | omega | (simp; done) | (simp; omega)) ?_; conv => whnf)
      | (refine Or.inl (And.intro (by omega) ?_); conv => whnf))
    refine ⟨k + 1, id, ⟨h, by dsimp only; omega⟩, rfl, ⟨rfl, rfl, rfl, rfl, rfl, rfl, rfl, rfl, rfl, rfl, rfl, rfl, trivial⟩, ⟨rfl, trivial⟩⟩
  have h : k = 4 := by simp at h; omega
  subst h
  obtain ⟨q1, q2⟩ := hqo
  repeat (first
    | (refine ⟨⟨by kernel_rfl, by kernel_rfl⟩, ?_⟩; conv => whnf)
    | (refine And.intro (by first | omega | (simp; done) | (simp; omega)) ?_; conv => whnf)
    | (refine Or.inl (And.intro (by omega) ?_); conv => whnf))
  (refine br_intro (fun c1 => ?_) (fun c1 => ?_) <;> (conv => whnf))
  · exact (fin1 q1 c1).elim
  repeat (first
    | (refine ⟨⟨by kernel_rfl, by kernel_rfl⟩, ?_⟩; conv => whnf)
    | (refine And.intro (by first | omega | (simp; done) | (simp; omega)) ?_; conv => whnf)
    | (refine Or.inl (And.intro (by omega) ?_); conv => whnf))
  (refine br_intro (fun c2 => ?_) (fun c2 => ?_) <;> (conv => whnf))
  · exact (fin1 q2 c2).elim
  repeat (first
    | (refine ⟨⟨by kernel_rfl, by kernel_rfl⟩, ?_⟩; conv => whnf)
    | (refine And.intro (by first | omega | (simp; done) | (simp; omega)) ?_; conv => whnf)
    | (refine Or.inl (And.intro (by omega) ?_); conv => whnf))
  (refine br_intro (fun c3 => ?_) (fun c3 => ?_) <;> (conv => whnf))
  · exact (fin1 ne c3).elim
  have rF : ∀ i, i < N → NN .f32 ((fsR bs N).getD i 0) := fun i hi => (rain_facts hb (by omega) hi).1
  have hrain : rainB (fsR bs N) = true := by
    unfold rainB leastL
    rw [lN, decide_eq_true (by omega), Bool.true_and]
    exact allN_iff.2 fun i hi => least_nn (rF i hi)
  have dry := fun t lv => iDryRun (xs := fsR bs N) (lv := lv) (t := t) hrain
  rw [lN] at dry
  obtain ⟨lv, hlv⟩ : ∃ lv, fop .quo .f32 (foi .f32 (atV cs 4 9)) (canon .f32 1082130432) = lv := ⟨_, rfl⟩
  have lvF : Fin .f32 lv := by rw [← hlv]; exact (dy_quarters b4.1 (by omega)).1
  have e4' := fun t => dry t lv
  rw [← hlv] at e4'
  obtain ⟨hB, hD, hM⟩ := dyR_facts (xs := fsR bs N) (lv := lv) N
  have hF := fun i => dyF_le (xs := fsR bs N) (lv := lv) i
  have eF : ∀ i, dyF (fsR bs N) lv (i + 1) = bif dyD (fsR bs N) lv i then dyF (fsR bs N) lv i else i + 1 := fun i => rfl
  have gt : ∀ i, i < N → dyD (fsR bs N) lv i = true → fcmp .gtr .f32 ((fsR bs N).getD i 0) lv = false := fun i hi h => by
    unfold dyD at h
    rw [leq_sv (rF i hi).1 lvF] at h
    rw [gtr_sv (rF i hi).1 lvF]
    have := of_decide_eq_true h
    exact decide_eq_false (by omega)
  rw [← hlv] at hB hD hM eF gt
  simp only [← hlv] at hF
  repeat (first
    | (refine ⟨⟨by kernel_rfl, by kernel_rfl⟩, ?_⟩; conv => whnf)
    | (refine And.intro (by first | omega | (simp; done) | (simp; omega)) ?_; conv => whnf)
    | (refine Or.inl (And.intro (by omega) ?_); conv => whnf)
    | (refine Exists.intro _ (And.intro (a3 _) ?_); conv => whnf)
    | (refine Exists.intro _ (And.intro (e4 _) ?_); conv => whnf)
    | (refine Exists.intro _ (And.intro (a4 _) ?_); conv => whnf)
    | (refine Exists.intro _ (And.intro (e4' _) ?_); conv => whnf))
  (refine br_intro (fun c4 => ?_) (fun c4 => ?_) <;> (conv => whnf))
  · exfalso; simp at c4 <;> omega
  repeat (first
    | (refine ⟨⟨by kernel_rfl, by kernel_rfl⟩, ?_⟩; conv => whnf)
    | (refine And.intro (by first | omega | (simp; done) | (simp; omega)) ?_; conv => whnf)
    | (refine Or.inl (And.intro (by omega) ?_); conv => whnf))
  refine ⟨Nat, fun i => i ≤ N, fun i => [(17, .osl 516), (18, .flt .f32 (fop .quo .f32 (foi .f32 (atV cs 4 9)) (canon .f32 1082130432))), (19, .int .i64 ((dyR (fsR bs N) (fop .quo .f32 (foi .f32 (atV cs 4 9)) (canon .f32 1082130432)) N).1 : Int)), (20, .int .i64 ((dyR (fsR bs N) (fop .quo .f32 (foi .f32 (atV cs 4 9)) (canon .f32 1082130432)) N).2 : Int)), (22, .int .i64 ((i - dyF (fsR bs N) (fop .quo .f32 (foi .f32 (atV cs 4 9)) (canon .f32 1082130432)) i : Nat) : Int)), (160, .int .i64 N), (161, .int .i64 i)], fun i => [(516, .tab .f32 (fsR bs N))], fun i => N - i, ⟨0, id, Nat.zero_le _, rfl, ⟨rfl, rfl, rfl, rfl, rfl, congrArg (AV.int .i64) (by rw [lN]), rfl, trivial⟩, ⟨rfl, trivial⟩⟩, fun i hi => ?_⟩
  conv => whnf
  (refine br_intro (fun h => ?_) (fun h => ?_) <;> (conv => whnf))
  · have h : i < N := by simp at h; omega
    have hFi := hF i
    have hFs := hF (i + 1)
    have hMi := hM (i + 1) (by omega)
    have eFi := eF i
    have gti := gt i h
    have hDi := hD i
    repeat (first
      | (refine ⟨⟨by kernel_rfl, by kernel_rfl⟩, ?_⟩; conv => whnf)
      | (refine And.intro (by first | omega | (simp; done) | (simp; omega)) ?_; conv => whnf)
      | (refine Or.inl (And.intro (by omega) ?_); conv => whnf))
    (refine br_intro (fun d0 => ?_) (fun d0 => ?_) <;> (conv => whnf))
    · have d0 : dyD (fsR bs N) (fop .quo .f32 (foi .f32 (atV cs 4 9)) (canon .f32 1082130432)) i = true := d0
      rw [d0, cond_true] at eFi
      have gti := gti d0
      repeat (first
        | (refine ⟨⟨by kernel_rfl, by kernel_rfl⟩, ?_⟩; conv => whnf)
        | (refine And.intro (by first | omega | (simp; done) | (simp; omega)) ?_; conv => whnf)
        | (refine Or.inl (And.intro (by omega) ?_); conv => whnf))
      (refine br_intro (fun a1 => ?_) (fun a1 => ?_) <;> (conv => whnf))
      · exfalso; simp at a1 <;> omega
      repeat (first
        | (refine ⟨⟨by kernel_rfl, by kernel_rfl⟩, ?_⟩; conv => whnf)
        | (refine And.intro (by first | omega | (simp; done) | (simp; omega)) ?_; conv => whnf)
        | (refine Or.inl (And.intro (by omega) ?_); conv => whnf))
      (refine br_intro (fun a2 => ?_) (fun a2 => ?_) <;> (conv => whnf))
      · have a2 : ((i - dyF (fsR bs N) (fop .quo .f32 (foi .f32 (atV cs 4 9)) (canon .f32 1082130432)) i : Nat) : Int) + 1 = (dyR (fsR bs N) (fop .quo .f32 (foi .f32 (atV cs 4 9)) (canon .f32 1082130432)) N).2 := by simpa using a2
        repeat (first
          | (refine ⟨⟨by kernel_rfl, by kernel_rfl⟩, ?_⟩; conv => whnf)
          | (refine And.intro (by first | omega | (simp; done) | (simp; omega)) ?_; conv => whnf)
          | (refine Or.inl (And.intro (by omega) ?_); conv => whnf))
        (refine br_intro (fun a3 => ?_) (fun a3 => ?_) <;> (conv => whnf))
        · repeat (first
            | (refine ⟨⟨by kernel_rfl, by kernel_rfl⟩, ?_⟩; conv => whnf)
            | (refine And.intro (by first | omega | (simp; done) | (simp; omega)) ?_; conv => whnf)
            | (refine Or.inl (And.intro (by omega) ?_); conv => whnf))
          (refine br_intro (fun a4 => ?_) (fun a4 => ?_) <;> (conv => whnf))
          · exfalso; simp at a4 <;> omega
          repeat (first
            | (refine ⟨⟨by kernel_rfl, by kernel_rfl⟩, ?_⟩; conv => whnf)
            | (refine And.intro (by first | omega | (simp; done) | (simp; omega)) ?_; conv => whnf)
            | (refine Or.inl (And.intro (by omega) ?_); conv => whnf))
          (refine br_intro (fun e1 => ?_) (fun e1 => ?_) <;> (conv => whnf))
          · have e1 : (dyR (fsR bs N) (fop .quo .f32 (foi .f32 (atV cs 4 9)) (canon .f32 1082130432)) N).1 ≤ i := by simp at e1; omega
            repeat (first
              | (refine ⟨⟨by kernel_rfl, by kernel_rfl⟩, ?_⟩; conv => whnf)
              | (refine And.intro (by first | omega | (simp; done) | (simp; omega)) ?_; conv => whnf)
              | (refine Or.inl (And.intro (by omega) ?_); conv => whnf))
            (refine br_intro (fun e2 => ?_) (fun e2 => ?_) <;> (conv => whnf))
            · have e2 : i < (dyR (fsR bs N) (fop .quo .f32 (foi .f32 (atV cs 4 9)) (canon .f32 1082130432)) N).1 + (dyR (fsR bs N) (fop .quo .f32 (foi .f32 (atV cs 4 9)) (canon .f32 1082130432)) N).2 := by simp at e2; omega
              repeat (first
                | (refine ⟨⟨by kernel_rfl, by kernel_rfl⟩, ?_⟩; conv => whnf)
                | (refine And.intro (by first | omega | (simp; done) | (simp; omega)) ?_; conv => whnf)
                | (refine Or.inl (And.intro (by omega) ?_); conv => whnf))
              (refine br_intro (fun e3 => ?_) (fun e3 => ?_) <;> (conv => whnf))
              · exact (fin1 gti e3).elim
              repeat (first
                | (refine ⟨⟨by kernel_rfl, by kernel_rfl⟩, ?_⟩; conv => whnf)
                | (refine And.intro (by first | omega | (simp; done) | (simp; omega)) ?_; conv => whnf)
                | (refine Or.inl (And.intro (by omega) ?_); conv => whnf))
              refine ⟨i + 1, id, ⟨h, by dsimp only; omega⟩, rfl, ⟨rfl, rfl, rfl, rfl, congrArg (AV.int .i64) (by omega), rfl, rfl, trivial⟩, ⟨rfl, trivial⟩⟩
            · repeat (first
                | (refine ⟨⟨by kernel_rfl, by kernel_rfl⟩, ?_⟩; conv => whnf)
                | (refine And.intro (by first | omega | (simp; done) | (simp; omega)) ?_; conv => whnf)
                | (refine Or.inl (And.intro (by omega) ?_); conv => whnf))
              refine ⟨i + 1, id, ⟨h, by dsimp only; omega⟩, rfl, ⟨rfl, rfl, rfl, rfl, congrArg (AV.int .i64) (by omega), rfl, rfl, trivial⟩, ⟨rfl, trivial⟩⟩
          · repeat (first
              | (refine ⟨⟨by kernel_rfl, by kernel_rfl⟩, ?_⟩; conv => whnf)
              | (refine And.intro (by first | omega | (simp; done) | (simp; omega)) ?_; conv => whnf)
              | (refine Or.inl (And.intro (by omega) ?_); conv => whnf))
            refine ⟨i + 1, id, ⟨h, by dsimp only; omega⟩, rfl, ⟨rfl, rfl, rfl, rfl, congrArg (AV.int .i64) (by omega), rfl, rfl, trivial⟩, ⟨rfl, trivial⟩⟩
        · exfalso; simp at a3 <;> omega
      · repeat (first
          | (refine ⟨⟨by kernel_rfl, by kernel_rfl⟩, ?_⟩; conv => whnf)
          | (refine And.intro (by first | omega | (simp; done) | (simp; omega)) ?_; conv => whnf)
          | (refine Or.inl (And.intro (by omega) ?_); conv => whnf))
        (refine br_intro (fun e1 => ?_) (fun e1 => ?_) <;> (conv => whnf))
        · have e1 : (dyR (fsR bs N) (fop .quo .f32 (foi .f32 (atV cs 4 9)) (canon .f32 1082130432)) N).1 ≤ i := by simp at e1; omega
          repeat (first
            | (refine ⟨⟨by kernel_rfl, by kernel_rfl⟩, ?_⟩; conv => whnf)
            | (refine And.intro (by first | omega | (simp; done) | (simp; omega)) ?_; conv => whnf)
            | (refine Or.inl (And.intro (by omega) ?_); conv => whnf))
          (refine br_intro (fun e2 => ?_) (fun e2 => ?_) <;> (conv => whnf))
          · have e2 : i < (dyR (fsR bs N) (fop .quo .f32 (foi .f32 (atV cs 4 9)) (canon .f32 1082130432)) N).1 + (dyR (fsR bs N) (fop .quo .f32 (foi .f32 (atV cs 4 9)) (canon .f32 1082130432)) N).2 := by simp at e2; omega
            repeat (first
              | (refine ⟨⟨by kernel_rfl, by kernel_rfl⟩, ?_⟩; conv => whnf)
              | (refine And.intro (by first | omega | (simp; done) | (simp; omega)) ?_; conv => whnf)
              | (refine Or.inl (And.intro (by omega) ?_); conv => whnf))
            (refine br_intro (fun e3 => ?_) (fun e3 => ?_) <;> (conv => whnf))
            · exact (fin1 gti e3).elim
            repeat (first
              | (refine ⟨⟨by kernel_rfl, by kernel_rfl⟩, ?_⟩; conv => whnf)
              | (refine And.intro (by first | omega | (simp; done) | (simp; omega)) ?_; conv => whnf)
              | (refine Or.inl (And.intro (by omega) ?_); conv => whnf))
            refine ⟨i + 1, id, ⟨h, by dsimp only; omega⟩, rfl, ⟨rfl, rfl, rfl, rfl, congrArg (AV.int .i64) (by omega), rfl, rfl, trivial⟩, ⟨rfl, trivial⟩⟩
          · repeat (first
              | (refine ⟨⟨by kernel_rfl, by kernel_rfl⟩, ?_⟩; conv => whnf)
              | (refine And.intro (by first | omega | (simp; done) | (simp; omega)) ?_; conv => whnf)
              | (refine Or.inl (And.intro (by omega) ?_); conv => whnf))
            refine ⟨i + 1, id, ⟨h, by dsimp only; omega⟩, rfl, ⟨rfl, rfl, rfl, rfl, congrArg (AV.int .i64) (by omega), rfl, rfl, trivial⟩, ⟨rfl, trivial⟩⟩
        · repeat (first
            | (refine ⟨⟨by kernel_rfl, by kernel_rfl⟩, ?_⟩; conv => whnf)
            | (refine And.intro (by first | omega | (simp; done) | (simp; omega)) ?_; conv => whnf)
            | (refine Or.inl (And.intro (by omega) ?_); conv => whnf))
          refine ⟨i + 1, id, ⟨h, by dsimp only; omega⟩, rfl, ⟨rfl, rfl, rfl, rfl, congrArg (AV.int .i64) (by omega), rfl, rfl, trivial⟩, ⟨rfl, trivial⟩⟩
    · have d0 : dyD (fsR bs N) (fop .quo .f32 (foi .f32 (atV cs 4 9)) (canon .f32 1082130432)) i = false := d0
      rw [d0, cond_false] at eFi
      repeat (first
        | (refine ⟨⟨by kernel_rfl, by kernel_rfl⟩, ?_⟩; conv => whnf)
        | (refine And.intro (by first | omega | (simp; done) | (simp; omega)) ?_; conv => whnf)
        | (refine Or.inl (And.intro (by omega) ?_); conv => whnf))
      (refine br_intro (fun a2 => ?_) (fun a2 => ?_) <;> (conv => whnf))
      · repeat (first
          | (refine ⟨⟨by kernel_rfl, by kernel_rfl⟩, ?_⟩; conv => whnf)
          | (refine And.intro (by first | omega | (simp; done) | (simp; omega)) ?_; conv => whnf)
          | (refine Or.inl (And.intro (by omega) ?_); conv => whnf))
        repeat (first
          | (refine ⟨⟨by kernel_rfl, by kernel_rfl⟩, ?_⟩; conv => whnf)
          | (refine And.intro (by first | omega | (simp; done) | (simp; omega)) ?_; conv => whnf)
          | (refine Or.inl (And.intro (by omega) ?_); conv => whnf))
        (refine br_intro (fun e1 => ?_) (fun e1 => ?_) <;> (conv => whnf))
        · have e1 : (dyR (fsR bs N) (fop .quo .f32 (foi .f32 (atV cs 4 9)) (canon .f32 1082130432)) N).1 ≤ i := by simp at e1; omega
          repeat (first
            | (refine ⟨⟨by kernel_rfl, by kernel_rfl⟩, ?_⟩; conv => whnf)
            | (refine And.intro (by first | omega | (simp; done) | (simp; omega)) ?_; conv => whnf)
            | (refine Or.inl (And.intro (by omega) ?_); conv => whnf))
          (refine br_intro (fun e2 => ?_) (fun e2 => ?_) <;> (conv => whnf))
          · have e2 : i < (dyR (fsR bs N) (fop .quo .f32 (foi .f32 (atV cs 4 9)) (canon .f32 1082130432)) N).1 + (dyR (fsR bs N) (fop .quo .f32 (foi .f32 (atV cs 4 9)) (canon .f32 1082130432)) N).2 := by simp at e2; omega
            exact (fin1 d0 (hDi e1 e2)).elim
          · repeat (first
              | (refine ⟨⟨by kernel_rfl, by kernel_rfl⟩, ?_⟩; conv => whnf)
              | (refine And.intro (by first | omega | (simp; done) | (simp; omega)) ?_; conv => whnf)
              | (refine Or.inl (And.intro (by omega) ?_); conv => whnf))
            refine ⟨i + 1, id, ⟨h, by dsimp only; omega⟩, rfl, ⟨rfl, rfl, rfl, rfl, congrArg (AV.int .i64) (by omega), rfl, rfl, trivial⟩, ⟨rfl, trivial⟩⟩
        · repeat (first
            | (refine ⟨⟨by kernel_rfl, by kernel_rfl⟩, ?_⟩; conv => whnf)
            | (refine And.intro (by first | omega | (simp; done) | (simp; omega)) ?_; conv => whnf)
            | (refine Or.inl (And.intro (by omega) ?_); conv => whnf))
          refine ⟨i + 1, id, ⟨h, by dsimp only; omega⟩, rfl, ⟨rfl, rfl, rfl, rfl, congrArg (AV.int .i64) (by omega), rfl, rfl, trivial⟩, ⟨rfl, trivial⟩⟩
      · repeat (first
          | (refine ⟨⟨by kernel_rfl, by kernel_rfl⟩, ?_⟩; conv => whnf)
          | (refine And.intro (by first | omega | (simp; done) | (simp; omega)) ?_; conv => whnf)
          | (refine Or.inl (And.intro (by omega) ?_); conv => whnf))
        repeat (first
          | (refine ⟨⟨by kernel_rfl, by kernel_rfl⟩, ?_⟩; conv => whnf)
          | (refine And.intro (by first | omega | (simp; done) | (simp; omega)) ?_; conv => whnf)
          | (refine Or.inl (And.intro (by omega) ?_); conv => whnf))
        (refine br_intro (fun e1 => ?_) (fun e1 => ?_) <;> (conv => whnf))
        · have e1 : (dyR (fsR bs N) (fop .quo .f32 (foi .f32 (atV cs 4 9)) (canon .f32 1082130432)) N).1 ≤ i := by simp at e1; omega
          repeat (first
            | (refine ⟨⟨by kernel_rfl, by kernel_rfl⟩, ?_⟩; conv => whnf)
            | (refine And.intro (by first | omega | (simp; done) | (simp; omega)) ?_; conv => whnf)
            | (refine Or.inl (And.intro (by omega) ?_); conv => whnf))
          (refine br_intro (fun e2 => ?_) (fun e2 => ?_) <;> (conv => whnf))
          · have e2 : i < (dyR (fsR bs N) (fop .quo .f32 (foi .f32 (atV cs 4 9)) (canon .f32 1082130432)) N).1 + (dyR (fsR bs N) (fop .quo .f32 (foi .f32 (atV cs 4 9)) (canon .f32 1082130432)) N).2 := by simp at e2; omega
            exact (fin1 d0 (hDi e1 e2)).elim
          · repeat (first
              | (refine ⟨⟨by kernel_rfl, by kernel_rfl⟩, ?_⟩; conv => whnf)
              | (refine And.intro (by first | omega | (simp; done) | (simp; omega)) ?_; conv => whnf)
              | (refine Or.inl (And.intro (by omega) ?_); conv => whnf))
            refine ⟨i + 1, id, ⟨h, by dsimp only; omega⟩, rfl, ⟨rfl, rfl, rfl, rfl, congrArg (AV.int .i64) (by omega), rfl, rfl, trivial⟩, ⟨rfl, trivial⟩⟩
        · repeat (first
            | (refine ⟨⟨by kernel_rfl, by kernel_rfl⟩, ?_⟩; conv => whnf)
            | (refine And.intro (by first | omega | (simp; done) | (simp; omega)) ?_; conv => whnf)
            | (refine Or.inl (And.intro (by omega) ?_); conv => whnf))
          refine ⟨i + 1, id, ⟨h, by dsimp only; omega⟩, rfl, ⟨rfl, rfl, rfl, rfl, congrArg (AV.int .i64) (by omega), rfl, rfl, trivial⟩, ⟨rfl, trivial⟩⟩

end Go.Proofs.Ytnepjbnoaemmdaa
