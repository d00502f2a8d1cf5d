/- What each function of this seat does (Wo7). Printed from templates of this seat's own. -/
import Derived.Test.YtngmlbeafdaolaaWo6
import Derived.Test.YtngmlbeafdaolaaR8b
namespace Go.Proofs.Ytngmlbeafdaolaa
open Go.Ax Go.Bx
set_option maxRecDepth 8000
set_option linter.unusedSimpArgs false
set_option linter.unusedVariables false

set_option maxHeartbeats 1000000 in
theorem lawFilled (bs : List Int) (nb : bs.length < 2 ^ 63) (lb : ∀ y ∈ bs, IntKind.u8.min ≤ y ∧ y ≤ IntKind.u8.max) (cs : List Int) (nc : cs.length < 2 ^ 63) (lc : ∀ y ∈ cs, IntKind.u8.min ≤ y ∧ y ≤ IntKind.u8.max) : Does Try.prog 4 [.sli (.int .u8) bs .undef, .sli (.int .u8) cs .undef] (.bool true) := by
  cases hlong : (decide (48 < bs.length) || decide (48 < cs.length)) with
  | true =>
    have e0 : ∀ t t', Does Try.prog 15 [.sli (.int .u8) bs t, .sli (.int .u8) cs t'] (.bool true) := fun t t' => hlong ▸ lR8Long nb nc
    refine Does.of_awp (X := cx 251) Try.func4 rfl (by kernel_rfl) rfl (by simp [cx]) [] rfl ?_
    conv => whnf
    repeat (first
      | (refine ⟨⟨by kernel_rfl, by kernel_rfl⟩, ?_⟩; conv => whnf)
      | (refine And.intro (by first | omega | (simp; done) | (simp; omega)) ?_; conv => whnf)
      | (refine Or.inl (And.intro (by omega) ?_); conv => whnf)
      | (refine Exists.intro _ (And.intro (e0 _ _) ?_); conv => whnf))
    all_goals (try (conv => whnf))
    all_goals (repeat' (first | exact True.intro | (refine And.intro ?_ ?_ <;> (conv => whnf))))
    all_goals (first | rfl | (simp_all []; done) | (simp only [cond_true, cond_false, Bool.and_true, Bool.true_and, Bool.and_false, Bool.false_and]; rfl) | (simp_all []; omega))
  | false =>
  have e0 : ∀ t t', Does Try.prog 15 [.sli (.int .u8) bs t, .sli (.int .u8) cs t'] (.bool false) := fun t t' => hlong ▸ lR8Long nb nc
  simp only [Bool.or_eq_false_iff, decide_eq_false_iff_not] at hlong
  have u0 : IntKind.u8.min = 0 := by decide +kernel
  have u1 : IntKind.u8.max = 255 := by decide +kernel
  have hb : Byt bs := ⟨fun b h => by have := lb b h; omega, by omega⟩
  have hc : Byt cs := ⟨fun b h => by have := lc b h; omega, by omega⟩
  have a1 : ∀ t, Does Try.prog 16 [.sli (.int .u8) bs t] (.agg [.int .i64 (rhW bs), .int .i64 (rhV bs), .own 0 .f32 (rhX bs)]) := fun t => sR8Hill hb
  obtain ⟨_, ⟨w1, w2⟩, v1, v2⟩ := rh_sides hb
  have hs := rh_size hb
  have hX := rh_half hb
  have hl := rhX_len hb
  obtain ⟨w, hw⟩ : ∃ w : Nat, rhW bs = (w : Int) := ⟨(rhW bs).toNat, by omega⟩
  obtain ⟨v, hv⟩ : ∃ v : Nat, rhV bs = (v : Int) := ⟨(rhV bs).toNat, by omega⟩
  rw [hw, hv] at a1 hX hl
  rw [hw] at w1 w2 hs
  rw [hv] at v1 v2 hs
  generalize rhX bs = X at *
  have hn : X.length ≤ 100 := by omega
  obtain ⟨g, hD, h8⟩ := half_dyH hX
  obtain ⟨p, hp⟩ := fil_dy hD
  have hh := hX.1
  have K := filK hh
  have hf := fil_half hX
  have eI := fil_idem hh
  have o1 := hollow_ok hD hn hp
  have o2 := no_hollow hD hn
  rw [eI, K.len] at o2
  have x32 := hh.2
  have f32' := hf.1.2
  have lF := K.len
  have A1 : ∀ t, Does Try.prog 17 [.agg [.int .i64 w, .int .i64 v, .sli .f32 X t]] (.tup [.agg [.int .i64 w, .int .i64 v, .own 0 .f32 (filW w v X)], .bool true]) := fun t => by
    have := @iFillHill w v X t x32 (by omega)
    unfold filV filO at this
    rw [hh.1] at this
    exact this
  have A2 : ∀ t, Does Try.prog 17 [.agg [.int .i64 w, .int .i64 v, .sli .f32 (filW w v X) t]] (.tup [.agg [.int .i64 w, .int .i64 v, .own 0 .f32 (filW w v X)], .bool true]) := fun t => by
    have := @iFillHill w v (filW w v X) t f32' (by omega)
    unfold filV filO at this
    rw [hf.1.1, eI] at this
    exact this
  have A3 : ∀ t, Does Try.prog 18 [.agg [.int .i64 w, .int .i64 v, .sli .f32 X t]] (.tup [.flt .f32 (hoN X (filW w v X) X.length), .bool true]) := fun t => by
    have := @iHollow w v X t x32 (by omega)
    unfold hoV at this
    rw [o1.1] at this
    exact this
  have A4 : ∀ t, Does Try.prog 18 [.agg [.int .i64 w, .int .i64 v, .sli .f32 (filW w v X) t]] (.tup [.flt .f32 (hoN (filW w v X) (filW w v X) X.length), .bool true]) := fun t => by
    have := @iHollow w v (filW w v X) t f32' (by omega)
    unfold hoV at this
    rw [show hoB w v (filW w v X) = true from (no_hollow hD hn).1, eI, lF] at this
    exact this
  have A5 : ∀ t t', Does Try.prog 19 [.agg [.int .i64 w, .int .i64 v, .sli .f32 (filW w v X) t], .agg [.int .i64 w, .int .i64 v, .sli .f32 (filW w v X) t']] (.bool true) := fun t t' => iSameHill (by omega) f32'
  have A6 : ∀ t, Does Try.prog 9 [.agg [.int .i64 w, .int .i64 v, .sli .f32 X t]] (.tup [.own 0 (.int .i64) (rwW w v X), .bool true]) := fun t => by
    have := @iRunWays w v X t x32 (by omega)
    have e := wa_ok hX
    rw [e.2, show rwB w v X = true by unfold rwB; rw [hh.1, (wa_ok hf).1]; rfl] at this
    exact this
  have lW : (rwW w v X).length = X.length := (run_leads hX hn).1
  have hways := run_ways hX hn
  have A7 : ∀ t t', Does Try.prog 22 [.agg [.int .i64 w, .int .i64 v, .sli .f32 X t], .sli (.int .i64) (rwW w v X) t'] (.bool true) := fun t t' => hways.1 ▸ iWaysB (by omega) (by omega)
  have jb := r8V_bound (bs := cs) 0 (n := (X.length : Int)) (by omega)
  obtain ⟨j, hj⟩ : ∃ j : Nat, r8V cs 0 (X.length : Int) = (j : Int) := ⟨(r8V cs 0 (X.length : Int)).toNat, by omega⟩
  have hjX : j < X.length := by omega
  have A8 : ∀ t, Does Try.prog 25 [.sli (.int .u8) cs t, .int .i64 0, .int .i64 (X.length : Int)] (.int .i64 (j : Int)) := fun t => hj ▸ lR8At (k := 0) hc (by omega)
  obtain ⟨dg1, dg2⟩ := dug_dy hD h8 hjX
  have lD : (dgN X [(j : Int)] (canon .f32 1065353216) 1).length = X.length := dgN_len _ _ _ _
  have A9 : ∀ t t', Does Try.prog 24 [.agg [.int .i64 w, .int .i64 v, .sli .f32 X t], .sli (.int .i64) [(j : Int)] t', .flt .f32 (canon .f32 1065353216)] (.tup [.agg [.int .i64 w, .int .i64 v, .own 0 .f32 (dgN X [(j : Int)] (canon .f32 1065353216) 1)], .bool true]) := fun t t' => by
    have := @iDig w v X [(j : Int)] (canon .f32 1065353216) t t' (by omega) (by simp)
    unfold dgR dgO at this
    rw [dg1] at this
    exact this
  obtain ⟨p3, hp3⟩ := fil_dy dg2
  have o3 := hollow_ok dg2 (by omega) hp3
  have A10 : ∀ t, Does Try.prog 18 [.agg [.int .i64 w, .int .i64 v, .sli .f32 (dgN X [(j : Int)] (canon .f32 1065353216) 1) t]] (.tup [.flt .f32 (hoN (dgN X [(j : Int)] (canon .f32 1065353216) 1) (filW w v (dgN X [(j : Int)] (canon .f32 1065353216) 1)) (dgN X [(j : Int)] (canon .f32 1065353216) 1).length), .bool true]) := fun t => by
    have := @iHollow w v (dgN X [(j : Int)] (canon .f32 1065353216) 1) t dg2.1.2 (by omega)
    unfold hoV at this
    rw [o3.1] at this
    exact this
  obtain ⟨tw1, tw2⟩ := twice_dy hD h8 (w := w) (h := v) rfl rfl
  have o4 := twice_hollow hD tw1 tw2 hn
  have A11 : ∀ t, Does Try.prog 26 [.agg [.int .i64 w, .int .i64 v, .sli .f32 X t], .flt .f32 (canon .f32 1073741824)] (.tup [.agg [.int .i64 w, .int .i64 v, .own 0 .f32 (tabN (fun i => fop .mul .f32 (X.getD i 0) (canon .f32 1073741824)) (v * w))], .bool true]) := fun t => iScale hh.1 dy_two0.fin tw1.1.1
  have A12 : ∀ t, Does Try.prog 18 [.agg [.int .i64 w, .int .i64 v, .sli .f32 (tabN (fun i => fop .mul .f32 (X.getD i 0) (canon .f32 1073741824)) (v * w)) t]] (.tup [.flt .f32 (hoN (tabN (fun i => fop .mul .f32 (X.getD i 0) (canon .f32 1073741824)) (v * w)) (filW w v (tabN (fun i => fop .mul .f32 (X.getD i 0) (canon .f32 1073741824)) (v * w))) (tabN (fun i => fop .mul .f32 (X.getD i 0) (canon .f32 1073741824)) (v * w)).length), .bool true]) := fun t => by
    have := @iHollow w v (tabN (fun i => fop .mul .f32 (X.getD i 0) (canon .f32 1073741824)) (v * w)) t tw1.1.2 (by omega)
    unfold hoV at this
    rw [o4.1] at this
    exact this
  have c1 : fcmp .lss .f32 (hoN X (filW w v X) X.length) (canon .f32 0) = false := by
    rw [o1.2.1.lss (dy_zero 1 (by omega))]; exact decide_eq_false (by omega)
  have c2 := o2.2
  have c3 : fcmp .geq .f32 (hoN (dgN X [(j : Int)] (canon .f32 1065353216) 1) (filW w v (dgN X [(j : Int)] (canon .f32 1065353216) 1)) (dgN X [(j : Int)] (canon .f32 1065353216) 1).length) (canon .f32 0) = true := by
    rw [o3.2.1.geq (dy_zero 1 (by omega))]; exact decide_eq_true o3.2.2.1
  have c4 := o4.2
  have sumD := byS_dy hD hn hp X.length (Nat.le_refl _)
  have c5 := (gap_0 sumD o1.2.1.widen).1
  have tests := fun i hi => by_tests hD hp (i := i) hi
  have path := fun i hi => run_path hX hn (i := i) hi
  have A13 : ∀ i, i < X.length → ∀ t t', Does Try.prog 23 [.agg [.int .i64 w, .int .i64 v, .sli .f32 X t], .sli (.int .i64) (rwW w v X) t', .int .i64 (i : Int)] (.tup [.own 0 (.int .i64) (paL (rwW w v X) i), .bool true]) := fun i hi t t' => by
    have := @iPathFrom w v (i : Int) X (rwW w v X) t t' (by omega) (by omega)
    have hC : paC w v X (rwW w v X) i = true := by
      unfold paC
      rw [hways.1, show inR (i : Int) 0 ((w : Int) * v - 1) = true by simp [inR]; omega]; rfl
    unfold paO at this
    rw [hC] at this
    exact this
  have lP : ∀ i : Nat, (paL (rwW w v X) i).length = paM (rwW w v X) i := fun i => tabN_len _ _
  have pAt : ∀ (i t : Nat), t < paM (rwW w v X) i → (paL (rwW w v X) i).getD t 0 = wyCur (rwW w v X) i t := fun i t ht => tabN_getD (wyCur (rwW w v X) i) ht 0
  clear o1 o2 o3 o4 dg1 dg2 tw1 hp3
  generalize hHX : hoN X (filW w v X) X.length = HX at *
  have fin1 : ∀ {b : Bool}, b = false → b = true → False := fun h g => by rw [h] at g; cases g
  refine Does.of_awp (X := cx 251) Try.func4 rfl (by kernel_rfl) rfl (by simp [cx]) [] rfl ?_
  conv => whnf
  repeat (first
    | (refine ⟨⟨by kernel_rfl, by kernel_rfl⟩, ?_⟩; conv => whnf)
    | (refine And.intro (by first | omega | (simp; done) | (simp; omega)) ?_; conv => whnf)
    | (refine Or.inl (And.intro (by omega) ?_); conv => whnf)
    | (refine Exists.intro _ (And.intro (e0 _ _) ?_); conv => whnf)
    | (refine Exists.intro _ (And.intro (a1 _) ?_); conv => whnf)
    | (refine Exists.intro _ (And.intro (A1 _) ?_); conv => whnf)
    | (refine Exists.intro _ (And.intro (A2 _) ?_); conv => whnf)
    | (refine Exists.intro _ (And.intro (A3 _) ?_); conv => whnf)
    | (refine Exists.intro _ (And.intro (A4 _) ?_); conv => whnf))
  (refine br_intro (fun x1 => ?_) (fun x1 => ?_) <;> (conv => whnf))
  · exfalso; simp at x1 <;> omega
  repeat (first
    | (refine ⟨⟨by kernel_rfl, by kernel_rfl⟩, ?_⟩; conv => whnf)
    | (refine And.intro (by first | omega | (simp; done) | (simp; omega)) ?_; conv => whnf)
    | (refine Or.inl (And.intro (by omega) ?_); conv => whnf)
    | (refine Exists.intro _ (And.intro (A5 _ _) ?_); conv => whnf))
  (refine br_intro (fun x2 => ?_) (fun x2 => ?_) <;> (conv => whnf))
  · exact (fin1 c2 x2).elim
  repeat (first
    | (refine ⟨⟨by kernel_rfl, by kernel_rfl⟩, ?_⟩; conv => whnf)
    | (refine And.intro (by first | omega | (simp; done) | (simp; omega)) ?_; conv => whnf)
    | (refine Or.inl (And.intro (by omega) ?_); conv => whnf))
  (refine br_intro (fun x3 => ?_) (fun x3 => ?_) <;> (conv => whnf))
  · exact (fin1 c1 x3).elim
  repeat (first
    | (refine ⟨⟨by kernel_rfl, by kernel_rfl⟩, ?_⟩; conv => whnf)
    | (refine And.intro (by first | omega | (simp; done) | (simp; omega)) ?_; conv => whnf)
    | (refine Or.inl (And.intro (by omega) ?_); conv => whnf))
  refine ⟨Nat, fun i => i ≤ X.length, fun i => [(1, .sli (.int .u8) cs .undef), (5, .loc 20 0), (6, .int .i64 X.length), (7, .loc 28 0), (11, .flt .f32 HX), (15, .flt .f64 (byS X (filW w v X) i)), (16, .int .i64 i)], fun i => [(20, .av [.int .i64 w, .int .i64 v, .osl 144]), (144, .tab .f32 X), (28, .av [.int .i64 w, .int .i64 v, .osl 168]), (168, .tab .f32 (filW w v X))], fun i => X.length - i, ⟨0, id, Nat.zero_le _, rfl, ⟨rfl, rfl, rfl, rfl, rfl, rfl, rfl, trivial⟩, ⟨rfl, rfl, rfl, rfl, trivial⟩⟩, fun i hi => ?_⟩
  conv => whnf
  (refine br_intro (fun h => ?_) (fun h => ?_) <;> (conv => whnf))
  · have h : i < X.length := by simp at h; omega
    obtain ⟨t1, t2⟩ := tests i h
    have eE : ∀ t, Does Try.prog 20 [.agg [.int .i64 w, .int .i64 v, .sli .f32 X t], .int .i64 (i : Int)] (.bool (edB w v i)) := fun t => lR8Edge (cel_of hh h)
    repeat (first
      | (refine ⟨⟨by kernel_rfl, by kernel_rfl⟩, ?_⟩; conv => whnf)
      | (refine And.intro (by first | omega | (simp; done) | (simp; omega)) ?_; conv => whnf)
      | (refine Or.inl (And.intro (by omega) ?_); conv => whnf))
    (refine br_intro (fun y1 => ?_) (fun y1 => ?_) <;> (conv => whnf))
    · exact (fin1 t1 y1).elim
    repeat (first
      | (refine ⟨⟨by kernel_rfl, by kernel_rfl⟩, ?_⟩; conv => whnf)
      | (refine And.intro (by first | omega | (simp; done) | (simp; omega)) ?_; conv => whnf)
      | (refine Or.inl (And.intro (by omega) ?_); conv => whnf)
      | (refine Exists.intro _ (And.intro (eE _) ?_); conv => whnf))
    (refine br_intro (fun y2 => ?_) (fun y2 => ?_) <;> (conv => whnf))
    · have t2 := t2 y2
      repeat (first
        | (refine ⟨⟨by kernel_rfl, by kernel_rfl⟩, ?_⟩; conv => whnf)
        | (refine And.intro (by first | omega | (simp; done) | (simp; omega)) ?_; conv => whnf)
        | (refine Or.inl (And.intro (by omega) ?_); conv => whnf))
      (refine br_intro (fun y3 => ?_) (fun y3 => ?_) <;> (conv => whnf))
      · exact (fin1 t2 y3).elim
      repeat (first
        | (refine ⟨⟨by kernel_rfl, by kernel_rfl⟩, ?_⟩; conv => whnf)
        | (refine And.intro (by first | omega | (simp; done) | (simp; omega)) ?_; conv => whnf)
        | (refine Or.inl (And.intro (by omega) ?_); conv => whnf))
      refine ⟨i + 1, id, ⟨h, by dsimp only; omega⟩, rfl, ⟨rfl, rfl, rfl, rfl, rfl, rfl, rfl, trivial⟩, ⟨rfl, rfl, rfl, rfl, trivial⟩⟩
    · repeat (first
        | (refine ⟨⟨by kernel_rfl, by kernel_rfl⟩, ?_⟩; conv => whnf)
        | (refine And.intro (by first | omega | (simp; done) | (simp; omega)) ?_; conv => whnf)
        | (refine Or.inl (And.intro (by omega) ?_); conv => whnf))
      refine ⟨i + 1, id, ⟨h, by dsimp only; omega⟩, rfl, ⟨rfl, rfl, rfl, rfl, rfl, rfl, rfl, trivial⟩, ⟨rfl, rfl, rfl, rfl, trivial⟩⟩
  have h : i = X.length := by simp at h; omega
  subst h
  as_aux_lemma =>
    repeat (first
      | (refine ⟨⟨by kernel_rfl, by kernel_rfl⟩, ?_⟩; conv => whnf)
      | (refine And.intro (by first | omega | (simp; done) | (simp; omega)) ?_; conv => whnf)
      | (refine Or.inl (And.intro (by omega) ?_); conv => whnf)
      | (refine Exists.intro _ (And.intro (lR8Gap) ?_); conv => whnf))
    (refine br_intro (fun x4 => ?_) (fun x4 => ?_) <;> (conv => whnf))
    · exact (fin1 c5 x4).elim
    repeat (first
      | (refine ⟨⟨by kernel_rfl, by kernel_rfl⟩, ?_⟩; conv => whnf)
      | (refine And.intro (by first | omega | (simp; done) | (simp; omega)) ?_; conv => whnf)
      | (refine Or.inl (And.intro (by omega) ?_); conv => whnf)
      | (refine Exists.intro _ (And.intro (A6 _) ?_); conv => whnf)
      | (refine Exists.intro _ (And.intro (A7 _ _) ?_); conv => whnf))
    (refine br_intro (fun x5 => ?_) (fun x5 => ?_) <;> (conv => whnf))
    · exfalso; simp at x5 <;> omega
    repeat (first
      | (refine ⟨⟨by kernel_rfl, by kernel_rfl⟩, ?_⟩; conv => whnf)
      | (refine And.intro (by first | omega | (simp; done) | (simp; omega)) ?_; conv => whnf)
      | (refine Or.inl (And.intro (by omega) ?_); conv => whnf))
    refine ⟨Nat, fun i => i ≤ X.length, fun i => [(1, .sli (.int .u8) cs .undef), (5, .loc 20 0), (6, .int .i64 X.length), (7, .loc 28 0), (11, .flt .f32 HX), (18, .osl 532), (20, .int .i64 i)], fun i => [(20, .av [.int .i64 w, .int .i64 v, .osl 144]), (144, .tab .f32 X), (28, .av [.int .i64 w, .int .i64 v, .osl 168]), (168, .tab .f32 (filW w v X)), (532, .tab (.int .i64) (rwW w v X))], fun i => X.length - i, ⟨0, id, Nat.zero_le _, rfl, ⟨rfl, rfl, rfl, rfl, rfl, rfl, rfl, trivial⟩, ⟨rfl, rfl, rfl, rfl, rfl, trivial⟩⟩, fun i hi => ?_⟩
    conv => whnf
    (refine br_intro (fun h => ?_) (fun h => ?_) <;> (conv => whnf))
    · have h : i < X.length := by simp at h; omega
      obtain ⟨q1, q2, q3, q4⟩ := path i h
      have lPi := lP i
      have mle : paM (rwW w v X) i ≤ 101 := by
        have := (paM_spec hways.2 (c := (i : Int)) (by omega)).2.2.1
        omega
      have e13 := A13 i h
      have rngL : ∀ t, t < paM (rwW w v X) i → 0 ≤ (paL (rwW w v X) i).getD t 0 ∧ (paL (rwW w v X) i).getD t 0 < X.length := fun t ht => by
        rw [pAt i t ht]
        have := q2 t ht
        omega
      have last0 := rngL (paM (rwW w v X) i - 1) (by omega)
      have eLast : (paL (rwW w v X) i).getD ((((paL (rwW w v X) i).length : Nat) : Int) - 1).toNat 0 = wyCur (rwW w v X) i (paM (rwW w v X) i - 1) := by
        rw [lPi, show (((paM (rwW w v X) i : Nat) : Int) - 1).toNat = paM (rwW w v X) i - 1 by omega]
        exact pAt i _ (by omega)
      have eE : ∀ t, Does Try.prog 20 [.agg [.int .i64 w, .int .i64 v, .sli .f32 X t], .int .i64 ((paL (rwW w v X) i).getD ((((paL (rwW w v X) i).length : Nat) : Int) - 1).toNat 0)] (.bool true) := fun t => by
        have hq := q2 (paM (rwW w v X) i - 1) (by omega)
        have := @lR8Edge w v (wyCur (rwW w v X) i (paM (rwW w v X) i - 1)) X t (by
          have := cel_of hh hq.2
          rwa [show (((wyCur (rwW w v X) i (paM (rwW w v X) i - 1)).toNat : Nat) : Int) = wyCur (rwW w v X) i (paM (rwW w v X) i - 1) by omega] at this)
        rw [q3] at this
        rw [eLast]
        exact this
      have steps : ∀ k : Nat, 1 ≤ k → k < paM (rwW w v X) i → fcmp .gtr .f32 ((filW w v X).getD ((paL (rwW w v X) i).getD k 0).toNat 0) ((filW w v X).getD ((paL (rwW w v X) i).getD (k - 1) 0).toNat 0) = false := fun k h1 h2 => by
        have := q4 (k - 1) (by omega)
        rw [show k - 1 + 1 = k by omega] at this
        rw [pAt i k h2, pAt i (k - 1) (by omega)]
        exact this
      generalize paL (rwW w v X) i = P at *
      generalize paM (rwW w v X) i = m at *
      repeat (first
        | (refine ⟨⟨by kernel_rfl, by kernel_rfl⟩, ?_⟩; conv => whnf)
        | (refine And.intro (by first | omega | (simp; done) | (simp; omega)) ?_; conv => whnf)
        | (refine Or.inl (And.intro (by omega) ?_); conv => whnf)
        | (refine Exists.intro _ (And.intro (e13 _ _) ?_); conv => whnf))
      (refine br_intro (fun z1 => ?_) (fun z1 => ?_) <;> (conv => whnf))
      · exfalso; simp at z1; omega
      repeat (first
        | (refine ⟨⟨by kernel_rfl, by kernel_rfl⟩, ?_⟩; conv => whnf)
        | (refine And.intro (by first | omega | (simp; done) | (simp; omega)) ?_; conv => whnf)
        | (refine Or.inl (And.intro (by omega) ?_); conv => whnf)
        | (refine Exists.intro _ (And.intro (eE _) ?_); conv => whnf))
      refine ⟨Nat, fun k => 1 ≤ k ∧ k ≤ m, fun k => [(1, .sli (.int .u8) cs .undef), (5, .loc 20 0), (6, .int .i64 X.length), (7, .loc 28 0), (11, .flt .f32 HX), (18, .osl 532), (20, .int .i64 i), (21, .osl 636), (23, .int .i64 k)], fun k => [(20, .av [.int .i64 w, .int .i64 v, .osl 144]), (144, .tab .f32 X), (28, .av [.int .i64 w, .int .i64 v, .osl 168]), (168, .tab .f32 (filW w v X)), (532, .tab (.int .i64) (rwW w v X)), (636, .tab (.int .i64) P)], fun k => m - k, ⟨1, id, ⟨Nat.le_refl _, q1⟩, rfl, ⟨rfl, rfl, rfl, rfl, rfl, rfl, rfl, rfl, rfl, trivial⟩, ⟨rfl, rfl, rfl, rfl, rfl, rfl, trivial⟩⟩, fun k hk => ?_⟩
      obtain ⟨hk1, hk2⟩ := hk
      conv => whnf
      (refine br_intro (fun z2 => ?_) (fun z2 => ?_) <;> (conv => whnf))
      · have z2 : k < m := by simp at z2; omega
        have b1 := rngL k z2
        have b2 := rngL (k - 1) (by omega)
        have st := steps k hk1 z2
        rw [show k - 1 = ((k : Int) - 1).toNat by omega] at b2 st
        have b3 := b1
        have b4 := b2
        simp only [List.getD_eq_getElem?_getD] at b3 b4
        have b5 : 0 ≤ P.getD (k : Int).toNat (RK.int IntKind.i64).z ∧ P.getD (k : Int).toNat (RK.int IntKind.i64).z < ((filW w v X).length : Int) := by rw [lF]; exact b1
        have b6 : 0 ≤ P.getD ((k : Int) - 1).toNat (RK.int IntKind.i64).z ∧ P.getD ((k : Int) - 1).toNat (RK.int IntKind.i64).z < ((filW w v X).length : Int) := by rw [lF]; exact b2
        repeat (first
          | (refine ⟨⟨by kernel_rfl, by kernel_rfl⟩, ?_⟩; conv => whnf)
          | (refine And.intro (by first | omega | (simp; done) | (simp; omega)) ?_; conv => whnf)
          | (refine Or.inl (And.intro (by omega) ?_); conv => whnf))
        (refine br_intro (fun z3 => ?_) (fun z3 => ?_) <;> (conv => whnf))
        · exact (fin1 st z3).elim
        repeat (first
          | (refine ⟨⟨by kernel_rfl, by kernel_rfl⟩, ?_⟩; conv => whnf)
          | (refine And.intro (by first | omega | (simp; done) | (simp; omega)) ?_; conv => whnf)
          | (refine Or.inl (And.intro (by omega) ?_); conv => whnf))
        refine ⟨k + 1, id, ⟨⟨by omega, z2⟩, by dsimp only; omega⟩, rfl, ⟨rfl, rfl, rfl, rfl, rfl, rfl, rfl, rfl, rfl, trivial⟩, ⟨rfl, rfl, rfl, rfl, rfl, rfl, trivial⟩⟩
      · have z2 : k = m := by simp at z2; omega
        subst z2
        repeat (first
          | (refine ⟨⟨by kernel_rfl, by kernel_rfl⟩, ?_⟩; conv => whnf)
          | (refine And.intro (by first | omega | (simp; done) | (simp; omega)) ?_; conv => whnf)
          | (refine Or.inl (And.intro (by omega) ?_); conv => whnf))
        refine ⟨i + 1, id, ⟨h, by dsimp only; omega⟩, rfl, ⟨rfl, rfl, rfl, rfl, rfl, rfl, rfl, trivial⟩, ⟨rfl, rfl, rfl, rfl, rfl, trivial⟩⟩
    have h : i = X.length := by simp at h; omega
    subst h
    repeat (first
      | (refine ⟨⟨by kernel_rfl, by kernel_rfl⟩, ?_⟩; conv => whnf)
      | (refine And.intro (by first | omega | (simp; done) | (simp; omega)) ?_; conv => whnf)
      | (refine Or.inl (And.intro (by omega) ?_); conv => whnf)
      | (refine Exists.intro _ (And.intro (A8 _) ?_); conv => whnf)
      | (refine Exists.intro _ (And.intro (A9 _ _) ?_); conv => whnf)
      | (refine Exists.intro _ (And.intro (A10 _) ?_); conv => whnf)
      | (refine Exists.intro _ (And.intro (A11 _) ?_); conv => whnf)
      | (refine Exists.intro _ (And.intro (A12 _) ?_); conv => whnf)
      | (refine Exists.intro _ (And.intro (lR8Gap) ?_); conv => whnf))
    (refine br_intro (fun x6 => ?_) (fun x6 => ?_) <;> (conv => whnf))
    · repeat (first
        | (refine ⟨⟨by kernel_rfl, by kernel_rfl⟩, ?_⟩; conv => whnf)
        | (refine And.intro (by first | omega | (simp; done) | (simp; omega)) ?_; conv => whnf)
        | (refine Or.inl (And.intro (by omega) ?_); conv => whnf)
        | (refine Exists.intro _ (And.intro (lR8Gap) ?_); conv => whnf))
      exact congrArg AV.bool c4
    · rw [c3] at x6; cases x6

end Go.Proofs.Ytngmlbeafdaolaa
