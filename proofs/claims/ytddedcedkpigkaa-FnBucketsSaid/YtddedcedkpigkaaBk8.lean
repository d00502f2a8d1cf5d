/- What each function of this seat does (Bk8). Printed from templates of this seat's own. -/
import Derived.Test.YtddedcedkpigkaaBk7
import Derived.Test.YtddedcedkpigkaaUni
import Derived.Test.YtddedcedkpigkaaSpr
namespace Go.Proofs.Ytddedcedkpigkaa
open Go.Ax Go.Bx
set_option maxRecDepth 8000
set_option linter.unusedSimpArgs false
set_option linter.unusedVariables false
theorem finL_nn {l : List Nat} {n : Nat} (hl : l.length = n) (h : ∀ i, i < n → NN .f32 (l.getD i 0)) : finL l = true := by
  unfold finL
  exact allN_iff.2 fun i hi => fin_nn (h i (by omega))
theorem leastL_nn {l : List Nat} {n : Nat} (hl : l.length = n) (h : ∀ i, i < n → NN .f32 (l.getD i 0)) : leastL l = true := by
  unfold leastL
  exact allN_iff.2 fun i hi => least_nn (h i (by omega))
theorem rainB_nn {l : List Nat} {n : Nat} (hl : l.length = n) (hn : n ≤ 128) (h : ∀ i, i < n → NN .f32 (l.getD i 0)) : rainB l = true := by
  unfold rainB
  rw [hl, decide_eq_true hn, leastL_nn hl h]; rfl
theorem tk2_above : above tk2 = true := by
  unfold above K
  rw [tk2_dy.fin, tk2_dy.gtr (dy_zero 1 (by omega))]
  rfl
theorem tk2_lt : tk2 < 2 ^ 32 := by decide +kernel
theorem fsR_lt (cs : List Int) (N : Nat) : ∀ y ∈ fsR cs N, y < 2 ^ 32 := fun y hy => by
  obtain ⟨i, hi, e⟩ := List.getElem_of_mem hy
  have hl := fsR_len cs N
  have : (fsR cs N).getD i 0 = rnW cs i := tabN_getD (rnW cs) (show i < N by omega) 0
  rw [List.getD_eq_getElem?_getD, List.getElem?_eq_getElem hi, Option.getD_some, e] at this
  rw [this]
  exact fop_lt _ _ _
theorem rep_lt (n : Nat) : ∀ y ∈ List.replicate n (canon .f32 0), y < 2 ^ 32 := fun y hy => by
  rw [List.eq_of_mem_replicate hy]; decide +kernel
noncomputable def rtV (bs : List Int) : Nat := fop .quo .f32 (foi .f32 (atV bs 1 17)) (canon .f32 1090519040)
theorem rt_least (bs : List Int) : least (rtV bs) = true := by
  have b := atV_bound bs 1 (n := 17) (by omega)
  exact least_nn (dy_nn (m := 8) (dy_eighths b.1 (by omega)) b.1 (by show _ ≤ 8 * (8 : Int); omega)).1
/-- The share that flows out. -/
noncomputable def shV (bs : List Int) : Nat := bkS (rtV bs) tk2
theorem sh_unit (bs : List Int) : Unit .f32 false (shV bs) := bkS_unit (bkX_le (rt_least bs) tk2_above (fop_lt _ _ _) tk2_lt)

theorem lawBuckets (bs : List Int) (nb : bs.length < 2 ^ 63) (lb : ∀ y ∈ bs, IntKind.u8.min ≤ y ∧ y ≤ IntKind.u8.max) (cs : List Int) (nc : cs.length < 2 ^ 63) (lc : ∀ y ∈ cs, IntKind.u8.min ≤ y ∧ y ≤ IntKind.u8.max) : Does Try.prog 5 [.sli (.int .u8) bs .undef, .sli (.int .u8) cs .undef] (.bool true) := by
  cases hlong : (decide (1048576 < bs.length) || decide (1048576 < cs.length)) with
  | true =>
    have e0 : ∀ t t', Does Try.prog 6 [.sli (.int .u8) bs t, .sli (.int .u8) cs t'] (.bool true) := fun t t' => hlong ▸ lLong nb nc
    refine Does.of_awp (X := cx 166) Try.func5 rfl (by kernel_rfl) rfl (by simp [cx]) [] rfl ?_
    conv => whnf
    repeat (first
      | (refine ⟨⟨by kernel_rfl, by kernel_rfl⟩, ?_⟩; conv => whnf)
      | (refine And.intro (by first | omega | (simp; done) | (simp; omega)) ?_; conv => whnf)
      | (refine Or.inl (And.intro (by omega) ?_); conv => whnf)
      | (refine Exists.intro _ (And.intro (e0 _ _) ?_); conv => whnf))
    all_goals (try (conv => whnf))
    all_goals (repeat' (first | exact True.intro | (refine And.intro ?_ ?_ <;> (conv => whnf))))
    all_goals (first | rfl | (simp_all []; done) | (simp only [cond_true, cond_false, Bool.and_true, Bool.true_and, Bool.and_false, Bool.false_and]; rfl) | (simp_all []; omega))
  | false =>
  have e0 : ∀ t t', Does Try.prog 6 [.sli (.int .u8) bs t, .sli (.int .u8) cs t'] (.bool false) := fun t t' => hlong ▸ lLong nb nc
  simp only [Bool.or_eq_false_iff, decide_eq_false_iff_not] at hlong
  have u0 : IntKind.u8.min = 0 := by decide +kernel
  have u1 : IntKind.u8.max = 255 := by decide +kernel
  have hb : Byt bs := ⟨fun b h => by have := lb b h; omega, by omega⟩
  have hc : Byt cs := ⟨fun b h => by have := lc b h; omega, by omega⟩
  have bn := atV_bound bs 0 (n := 5) (by omega)
  obtain ⟨m, hm⟩ : ∃ m : Nat, atV bs 0 5 = (m : Int) := ⟨(atV bs 0 5).toNat, by omega⟩
  have bN := atV_bound cs 0 (n := 16) (by omega)
  obtain ⟨M, hM⟩ : ∃ M : Nat, atV cs 0 16 = (M : Int) := ⟨(atV cs 0 16).toNat, by omega⟩
  obtain ⟨n, en, hn, hn0⟩ : ∃ n : Nat, (1 : Int) + m = n ∧ n ≤ 5 ∧ 0 < n := ⟨m + 1, by omega, by omega, by omega⟩
  obtain ⟨N, eN', hN, hN0⟩ : ∃ N : Nat, (1 : Int) + M = N ∧ N ≤ 16 ∧ 0 < N := ⟨M + 1, by omega, by omega, by omega⟩
  have e1 : ∀ t, Does Try.prog 8 [.sli (.int .u8) bs t, .int .i64 0, .int .i64 5] (.int .i64 (m : Int)) := fun t => hm ▸ lAt (i := 0) (n := 5) hb (by omega) (by omega)
  have e2 : ∀ t, Does Try.prog 8 [.sli (.int .u8) bs t, .int .i64 1, .int .i64 17] (.int .i64 (atV bs 1 17)) := fun t => lAt (i := 1) (n := 17) hb (by omega) (by omega)
  have e3 : ∀ t, Does Try.prog 8 [.sli (.int .u8) cs t, .int .i64 0, .int .i64 16] (.int .i64 (M : Int)) := fun t => hM ▸ lAt (i := 0) (n := 16) hc (by omega) (by omega)
  have e4 : ∀ t, Does Try.prog 9 [.sli (.int .u8) cs t, .int .i64 ((1 : Int) + M)] (.own 0 .f32 (fsR cs N)) := fun t => by rw [eN']; exact sDrawRain hc (by omega)
  have e5 : ∀ t, Does Try.prog 9 [.sli (.int .u8) bs t, .int .i64 ((1 : Int) + m)] (.own 0 .f32 (fsR bs n)) := fun t => by rw [en]; exact sDrawRain hb (by omega)
  have l1 := fsR_len cs N
  have l2 := fsR_len bs n
  have hs := sh_unit bs
  have lr : rtV bs < 2 ^ 32 := fop_lt _ _ _
  have rF : ∀ i, i < N → NN .f32 ((fsR cs N).getD i 0) := fun i hi => (rain_facts hc (by omega) hi).1
  have sF : ∀ i, i < n → NN .f32 ((fsR bs n).getD i 0) := fun i hi => (rain_facts hb (by omega) hi).1
  have hrain : rainB (fsR cs N) = true := rainB_nn l1 (by omega) rF
  obtain ⟨o1, o2, _⟩ := outs_facts hb hc hn hN hs
  obtain ⟨z1, z2⟩ := empty_facts hc hn hN hs
  obtain ⟨y1, y2, _⟩ := unit_facts hn hN hN0 hs
  obtain ⟨x1, x2⟩ := uN_facts hn hN hN0 hs
  have gO := bkO_len (shV bs) (fsR bs n) (fsR cs N) N
  have gZ := bkO_len (shV bs) (List.replicate n (canon .f32 0)) (fsR cs N) N
  have gU := bkO_len (shV bs) (List.replicate n (canon .f32 0)) (ulR N) N
  have pO : ∀ j, j < N → (bkO (shV bs) (fsR bs n) (fsR cs N) N).2.getD j 0 = bF (shV bs) (fsR bs n) (fsR cs N) j n := fun j hj => by
    have := bO_get (sh := shV bs) (st := fsR bs n) (rs := fsR cs N) N j hj
    rw [l2] at this
    exact this
  have bB1 : bkB (fsR bs n) (rtV bs) tk2 (fsR cs N) = true := by
    unfold bkB bkG bkE
    rw [l2, l1, inR_w.2 (by omega), leastL_nn l2 sF, rt_least, tk2_above, hrain, show bkS (rtV bs) tk2 = shV bs from rfl, finL_nn (n := n) (by rw [gO.1, l2]) o1, finL_nn gO.2 fun i hi => by rw [pO i hi]; exact o2 i hi]
    rfl
  have bB2 : bkB (List.replicate n (canon .f32 0)) (rtV bs) tk2 (fsR cs N) = true := by
    unfold bkB bkG bkE
    rw [nz, l1, inR_w.2 (by omega), leastL_nn (nz n) fun i _ => rep_nn.1, rt_least, tk2_above, hrain, show bkS (rtV bs) tk2 = shV bs from rfl, finL_nn (n := n) (by rw [gZ.1, nz]) z1, finL_nn gZ.2 fun i hi => by
      show NN .f32 ((eN (shV bs) n (fsR cs N) N).getD i 0)
      rw [eN_at hi]; exact (z2 i hi n (Nat.le_refl _)).1]
    rfl
  have lR : (ulR (N : Int)).length = N := ulR_len N
  have eZ' : ulZ (n : Int) = List.replicate n (canon .f32 0) := rfl
  have bB3 : ulB (n : Int) (rtV bs) tk2 (N : Int) = true := by
    unfold ulB ulG bkE
    rw [inR_w.2 (by omega), inR_w.2 (by omega), rt_least, tk2_above, lR, eZ', show bkS (rtV bs) tk2 = shV bs from rfl, finL_nn (n := n) (by rw [gU.1, nz]) y1, finL_nn gU.2 fun i hi => (x1 i hi).1]
    rfl
  have e6 : ∀ t t', Does Try.prog 24 [.sli .f32 (fsR bs n) t, .flt .f32 (rtV bs), .flt .f32 tk2, .sli .f32 (fsR cs N) t'] (.tup [.own 0 .f32 (bkO (shV bs) (fsR bs n) (fsR cs N) N).1, .own 1 .f32 (bkO (shV bs) (fsR bs n) (fsR cs N) N).2, .bool true]) := fun t t' => by
    have := @iRunBuckets (fsR bs n) (fsR cs N) (rtV bs) tk2 t t' (by omega) (by omega) lr tk2_lt (fsR_lt bs n) (fsR_lt cs N)
    rw [bB1] at this
    unfold bkV at this
    rw [l1] at this
    exact this
  have e7 : ∀ t t', Does Try.prog 24 [.sli .f32 (List.replicate ((1 : Int) + m).toNat (canon .f32 0)) t, .flt .f32 (rtV bs), .flt .f32 tk2, .sli .f32 (fsR cs N) t'] (.tup [.own 0 .f32 (bkO (shV bs) (List.replicate n (canon .f32 0)) (fsR cs N) N).1, .own 1 .f32 (eN (shV bs) n (fsR cs N) N), .bool true]) := fun t t' => by
    have := @iRunBuckets (List.replicate n (canon .f32 0)) (fsR cs N) (rtV bs) tk2 t t' (by rw [nz]; omega) (by omega) lr tk2_lt (rep_lt n) (fsR_lt cs N)
    rw [bB2] at this
    unfold bkV at this
    rw [l1] at this
    rw [en]
    exact this
  have e8 : Does Try.prog 25 [.int .i64 ((1 : Int) + m), .flt .f32 (rtV bs), .flt .f32 tk2, .int .i64 ((fsR cs N).length : Int)] (.tup [.own 0 .f32 (uN (shV bs) n N), .bool true]) := by
    have := @iUnit (n : Int) (N : Int) (rtV bs) tk2 lr tk2_lt
    unfold ulO at this
    rw [bB3, cond_true, lR] at this
    rw [en, l1]
    exact this
  have lu : (uN (shV bs) n N).length = N := gU.2
  have lE : (eN (shV bs) n (fsR cs N) N).length = N := gZ.2
  have spr := fun r hr => spread_gap hc hn hN hN0 hs (r := r) hr
  have sL : spreadC (fsR cs N) (uN (shV bs) n N) = true := by
    unfold spreadC
    rw [hrain, rainB_nn lu (by omega) fun i hi => (x1 i hi).1, finL_nn (n := N) (by unfold spreadL; rw [tabN_len, l1]) fun i hi => by
      rw [show (spreadL (fsR cs N) (uN (shV bs) n N)).getD i 0 = spreadAt (fsR cs N) (uN (shV bs) n N) i (i + 1) by unfold spreadL; rw [l1]; exact tabN_getD (fun r => spreadAt (fsR cs N) (uN (shV bs) n N) r (r + 1)) hi 0]
      exact (spr i hi).1]
    rfl
  have e9 : ∀ t t', Does Try.prog 26 [.sli .f32 (fsR cs N) t, .sli .f32 (uN (shV bs) n N) t'] (.tup [.own 0 .f32 (spreadL (fsR cs N) (uN (shV bs) n N)), .bool true]) := fun t t' => by
    have := @iSpread (fsR cs N) (uN (shV bs) n N) t t' (by omega) (by omega)
    unfold spreadR spreadO at this
    rw [sL] at this
    exact this
  have lS : (spreadL (fsR cs N) (uN (shV bs) n N)).length = N := by unfold spreadL; rw [tabN_len, l1]
  have hgap := bucket_gap hb hc hn hN hs
  have hut := unit_tot hn hN hN0 hs
  have lo1 := gO.1; have lo2 := gO.2
  rw [l2] at lo1
  generalize hE1 : (bkO (shV bs) (fsR bs n) (fsR cs N) N).1 = E1 at *
  generalize hO1 : (bkO (shV bs) (fsR bs n) (fsR cs N) N).2 = O1 at *
  generalize (bkO (shV bs) (List.replicate n (canon .f32 0)) (fsR cs N) N).1 = E2 at *
  have nO : ∀ j, j < N → NN .f32 (O1.getD j 0) := fun j hj => by rw [pO j hj]; exact o2 j hj
  have eG : ∀ {xs : List Nat} {k : Nat} (hl : xs.length = k) (hk : k ≤ 64) t, Does Try.prog 13 [.sli .f32 xs t] (.flt .f64 (totW xs k)) := fun {xs k} hl hk t => by
    have := lTotal (xs := xs) (t := t) (by omega)
    rwa [hl] at this
  have t1 := eG l2 (by omega)
  have t2 := eG l1 (by omega)
  have t3 := eG lo1 (by omega)
  have t4 := eG lo2 (by omega)
  have t5 := eG lu (by omega)
  clear eG bB1 bB2 bB3 o1 z1 y1 y2 z2
  have fin1 : ∀ {b : Bool}, b = false → b = true → False := fun h g => by rw [h] at g; cases g
  refine Does.of_awp (X := cx 166) Try.func5 rfl (by kernel_rfl) rfl (by simp [cx]) [] rfl ?_
  conv => whnf
  repeat (first
    | (refine ⟨⟨by kernel_rfl, by kernel_rfl⟩, ?_⟩; conv => whnf)
    | (refine And.intro (by first | omega | (simp; done) | (simp; omega)) ?_; conv => whnf)
    | (refine Or.inl (And.intro (by omega) ?_); conv => whnf)
    | (refine Exists.intro _ (And.intro (e0 _ _) ?_); conv => whnf)
    | (refine Exists.intro _ (And.intro (e1 _) ?_); conv => whnf)
    | (refine Exists.intro _ (And.intro (e2 _) ?_); conv => whnf)
    | (refine Exists.intro _ (And.intro (e3 _) ?_); conv => whnf)
    | (refine Exists.intro _ (And.intro (e4 _) ?_); conv => whnf)
    | (refine Exists.intro _ (And.intro (e5 _) ?_); conv => whnf)
    | (refine Exists.intro _ (And.intro (e6 _ _) ?_); conv => whnf))
  (refine br_intro (fun c1 => ?_) (fun c1 => ?_) <;> (conv => whnf))
  · exfalso; simp at c1 <;> omega
  repeat (first
    | (refine ⟨⟨by kernel_rfl, by kernel_rfl⟩, ?_⟩; conv => whnf)
    | (refine And.intro (by first | omega | (simp; done) | (simp; omega)) ?_; conv => whnf)
    | (refine Or.inl (And.intro (by omega) ?_); conv => whnf))
  (refine br_intro (fun c2 => ?_) (fun c2 => ?_) <;> (conv => whnf))
  · exfalso; simp at c2 <;> omega
  repeat (first
    | (refine ⟨⟨by kernel_rfl, by kernel_rfl⟩, ?_⟩; conv => whnf)
    | (refine And.intro (by first | omega | (simp; done) | (simp; omega)) ?_; conv => whnf)
    | (refine Or.inl (And.intro (by omega) ?_); conv => whnf)
    | (refine Exists.intro _ (And.intro (t1 _) ?_); conv => whnf)
    | (refine Exists.intro _ (And.intro (t2 _) ?_); conv => whnf)
    | (refine Exists.intro _ (And.intro (t3 _) ?_); conv => whnf)
    | (refine Exists.intro _ (And.intro (t4 _) ?_); conv => whnf)
    | (refine Exists.intro _ (And.intro (lGap) ?_); conv => whnf))
  (refine br_intro (fun c3 => ?_) (fun c3 => ?_) <;> (conv => whnf))
  · exact (fin1 hgap c3).elim
  repeat (first
    | (refine ⟨⟨by kernel_rfl, by kernel_rfl⟩, ?_⟩; conv => whnf)
    | (refine And.intro (by first | omega | (simp; done) | (simp; omega)) ?_; conv => whnf)
    | (refine Or.inl (And.intro (by omega) ?_); conv => whnf)
    | (refine Exists.intro _ (And.intro (e7 _ _) ?_); conv => whnf)
    | (refine Exists.intro _ (And.intro (e8) ?_); conv => whnf)
    | (refine Exists.intro _ (And.intro (e9 _ _) ?_); conv => whnf))
  (refine br_intro (fun c4 => ?_) (fun c4 => ?_) <;> (conv => whnf))
  · exfalso; simp at c4 <;> omega
  repeat (first
    | (refine ⟨⟨by kernel_rfl, by kernel_rfl⟩, ?_⟩; conv => whnf)
    | (refine And.intro (by first | omega | (simp; done) | (simp; omega)) ?_; conv => whnf)
    | (refine Or.inl (And.intro (by omega) ?_); conv => whnf))
  (refine br_intro (fun c5 => ?_) (fun c5 => ?_) <;> (conv => whnf))
  · exfalso; simp at c5 <;> omega
  repeat (first
    | (refine ⟨⟨by kernel_rfl, by kernel_rfl⟩, ?_⟩; conv => whnf)
    | (refine And.intro (by first | omega | (simp; done) | (simp; omega)) ?_; conv => whnf)
    | (refine Or.inl (And.intro (by omega) ?_); conv => whnf))
  (refine br_intro (fun c6 => ?_) (fun c6 => ?_) <;> (conv => whnf))
  · exfalso; simp at c6 <;> omega
  repeat (first
    | (refine ⟨⟨by kernel_rfl, by kernel_rfl⟩, ?_⟩; conv => whnf)
    | (refine And.intro (by first | omega | (simp; done) | (simp; omega)) ?_; conv => whnf)
    | (refine Or.inl (And.intro (by omega) ?_); conv => whnf)
    | (refine Exists.intro _ (And.intro (t5 _) ?_); conv => whnf))
  (refine br_intro (fun c7 => ?_) (fun c7 => ?_) <;> (conv => whnf))
  · exact (fin1 hut c7).elim
  repeat (first
    | (refine ⟨⟨by kernel_rfl, by kernel_rfl⟩, ?_⟩; conv => whnf)
    | (refine And.intro (by first | omega | (simp; done) | (simp; omega)) ?_; conv => whnf)
    | (refine Or.inl (And.intro (by omega) ?_); conv => whnf))
  refine ⟨Nat, fun i => i ≤ N, fun i => [(7, .osl 136), (10, .osl 169), (13, .osl 321), (15, .osl 356), (17, .osl 380), (135, .int .i64 N), (136, .int .i64 i)], fun i => [(136, .tab .f32 (fsR cs N)), (169, .tab .f32 O1), (321, .tab .f32 (eN (shV bs) n (fsR cs N) N)), (356, .tab .f32 (uN (shV bs) n N)), (380, .tab .f32 (spreadL (fsR cs N) (uN (shV bs) n N)))], fun i => N - i, ⟨0, id, Nat.zero_le _, rfl, ⟨rfl, rfl, rfl, rfl, rfl, congrArg (AV.int .i64) (by rw [l1]), rfl, trivial⟩, ⟨rfl, rfl, rfl, rfl, rfl, trivial⟩⟩, fun i hi => ?_⟩
  conv => whnf
  (refine br_intro (fun h => ?_) (fun h => ?_) <;> (conv => whnf))
  · have h : i < N := by simp at h; omega
    have p1 : fcmp .lss .f32 ((uN (shV bs) n N).getD i 0) (canon .f32 0) = false := by
      have := (x1 i h).1
      rw [lss_sv this.1 sv_zero.1, sv_zero.2]; exact decide_eq_false (by have := this.2; omega)
    have p2 : fcmp .lss .f32 (O1.getD i 0) (canon .f32 0) = false := by
      have := nO i h
      rw [lss_sv this.1 sv_zero.1, sv_zero.2]; exact decide_eq_false (by have := this.2; omega)
    have p3 := (spr i h).2
    rw [show spreadAt (fsR cs N) (uN (shV bs) n N) i (i + 1) = (spreadL (fsR cs N) (uN (shV bs) n N)).getD i 0 by unfold spreadL; rw [l1]; exact (tabN_getD (fun r => spreadAt (fsR cs N) (uN (shV bs) n N) r (r + 1)) h 0).symm] at p3
    repeat (first
      | (refine ⟨⟨by kernel_rfl, by kernel_rfl⟩, ?_⟩; conv => whnf)
      | (refine And.intro (by first | omega | (simp; done) | (simp; omega)) ?_; conv => whnf)
      | (refine Or.inl (And.intro (by omega) ?_); conv => whnf)
      | (refine Exists.intro _ (And.intro (lGap) ?_); conv => whnf))
    (refine br_intro (fun d1 => ?_) (fun d1 => ?_) <;> (conv => whnf))
    · exact (fin1 p1 d1).elim
    repeat (first
      | (refine ⟨⟨by kernel_rfl, by kernel_rfl⟩, ?_⟩; conv => whnf)
      | (refine And.intro (by first | omega | (simp; done) | (simp; omega)) ?_; conv => whnf)
      | (refine Or.inl (And.intro (by omega) ?_); conv => whnf)
      | (refine Exists.intro _ (And.intro (lGap) ?_); conv => whnf))
    (refine br_intro (fun d2 => ?_) (fun d2 => ?_) <;> (conv => whnf))
    · exact (fin1 p2 d2).elim
    repeat (first
      | (refine ⟨⟨by kernel_rfl, by kernel_rfl⟩, ?_⟩; conv => whnf)
      | (refine And.intro (by first | omega | (simp; done) | (simp; omega)) ?_; conv => whnf)
      | (refine Or.inl (And.intro (by omega) ?_); conv => whnf)
      | (refine Exists.intro _ (And.intro (lGap) ?_); conv => whnf))
    (refine br_intro (fun d3 => ?_) (fun d3 => ?_) <;> (conv => whnf))
    · exact (fin1 p3 d3).elim
    repeat (first
      | (refine ⟨⟨by kernel_rfl, by kernel_rfl⟩, ?_⟩; conv => whnf)
      | (refine And.intro (by first | omega | (simp; done) | (simp; omega)) ?_; conv => whnf)
      | (refine Or.inl (And.intro (by omega) ?_); conv => whnf))
    refine ⟨i + 1, id, ⟨h, by dsimp only; omega⟩, rfl, ⟨rfl, rfl, rfl, rfl, rfl, rfl, rfl, trivial⟩, ⟨rfl, rfl, rfl, rfl, rfl, trivial⟩⟩

end Go.Proofs.Ytddedcedkpigkaa
