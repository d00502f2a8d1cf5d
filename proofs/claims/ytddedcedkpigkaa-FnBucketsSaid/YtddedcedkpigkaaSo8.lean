/- What each function of this seat does (So8). Printed from templates of this seat's own. -/
import Derived.Test.YtddedcedkpigkaaSo5
import Derived.Test.YtddedcedkpigkaaSo7
namespace Go.Proofs.Ytddedcedkpigkaa
open Go.Ax Go.Bx
set_option maxRecDepth 8000
set_option linter.unusedSimpArgs false
set_option linter.unusedVariables false
theorem sv_zero : Fin .f32 (canon .f32 0) ∧ sv .f32 (canon .f32 0) = 0 := by
  have h := dy_zero 0 (by omega)
  exact ⟨h.1, by rw [h.2.2, Int.zero_mul]⟩
theorem least_nn {x : Nat} (h : NN .f32 x) : least x = true := by
  unfold least K
  rw [fin_eq, show isFin .f32 x = true from decide_eq_true h.1, geq_sv h.1 sv_zero.1, sv_zero.2, decide_eq_true h.2]
  rfl
theorem fin_nn {x : Nat} (h : NN .f32 x) : fin x = true := by rw [fin_eq]; exact decide_eq_true h.1
theorem soV_of {a b c d e : Nat} (h : SoilB a b c d) (he : NN .f32 e) (hE : sv .f32 e ≤ sv .f32 c) : soV a b c d e = true := by
  unfold soV K
  rw [geq_sv he.1 sv_zero.1, sv_zero.2, decide_eq_true he.2, leq_sv he.1 h.nc.1, decide_eq_true hE]
  simp [leastL, allN, least_nn h.na, least_nn h.nb, least_nn h.nc, least_nn h.nd]
theorem can_le {bs : List Int} (hb : Byt bs) : fcmp .leq .f32 (soCan (oA bs) (oB bs) (oC bs)) (soCan (oA bs) (oB bs) (oE bs)) = true := by
  obtain ⟨h1, h2, h3, h4, h5⟩ := o_bound hb
  obtain ⟨s, e, le⟩ := o_soil hb
  have n1 := (can_nn s s.nc (Int.le_refl _)).1
  have n2 := (can_nn s e le).1
  rw [leq_sv n1.1 n2.1]
  obtain ⟨a, ha⟩ : ∃ k : Nat, (k : Int) = (o1 bs).1 := ⟨(o1 bs).1.toNat, by omega⟩
  obtain ⟨b, hb⟩ : ∃ k : Nat, (k : Int) = (o2 bs).1 := ⟨(o2 bs).1.toNat, by omega⟩
  obtain ⟨h, hh⟩ : ∃ k : Nat, (k : Int) = (o3 bs).1 := ⟨(o3 bs).1.toNat, by omega⟩
  obtain ⟨k, hk⟩ : ∃ k : Nat, (k : Int) = (o5 bs).1 := ⟨(o5 bs).1.toNat, by omega⟩
  have eA : oA bs = qQ a := by unfold oA qQ; rw [foi_eq, ha]
  have eB : oB bs = qQ b := by unfold oB qQ; rw [foi_eq, hb]
  have eC : oC bs = qH h := by unfold oC qH; rw [foi_eq, hh]
  have eE : oE bs = qW h k := by unfold oE qW; rw [eC, foi_eq, hk]
  have t1 := of_tab tab_can (show b < 9 by omega)
  have t2 := of_tab t1 (show h < 17 by omega)
  have t3 := of_tab t2 (show k < 9 by omega)
  have t4 := of_tab t3 (show a < 9 by omega)
  rw [eA, eB, eC, eE]
  exact decide_eq_true (of_decide_eq_true t4)
theorem can_ge {bs : List Int} (hb : Byt bs) : fcmp .geq .f32 (soCan (oA bs) (oB bs) (oC bs)) (oA bs) = true := by
  obtain ⟨s, e, le⟩ := o_soil hb
  have n1 := can_nn s s.nc (Int.le_refl _)
  rw [geq_sv n1.1.1 s.na.1]
  exact decide_eq_true n1.2.2
theorem soS_lt {a b c d e tick : Nat} {fs : List Nat} (he : e < 2 ^ 32) : ∀ i, soS a b c d e fs tick i < 2 ^ 32
  | 0 => he
  | _ + 1 => fop_lt _ _ _
theorem soW1_lt {a b c e fall tick : Nat} (hc : c < 2 ^ 32) : soW1 a b c e fall tick < 2 ^ 32 := by
  unfold soW1
  cases fcmp .gtr .f32 (fop .add .f32 e (soT a b c e fall tick 2)) c
  · exact fop_lt _ _ _
  · exact hc
theorem soL_lt {a b c d e fall tick : Nat} (hc : c < 2 ^ 32) : soL a b c d e fall tick < 2 ^ 32 := by
  unfold soL
  cases fcmp .gtr .f32 (fop .mul .f32 (fop .mul .f32 (soW1 a b c e fall tick) d) tick) (soW1 a b c e fall tick)
  · exact fop_lt _ _ _
  · exact soW1_lt hc

theorem lawSoils (bs : List Int) (nb : bs.length < 2 ^ 63) (lb : ∀ y ∈ bs, IntKind.u8.min ≤ y ∧ y ≤ IntKind.u8.max) (cs : List Int) (nc : cs.length < 2 ^ 63) (lc : ∀ y ∈ cs, IntKind.u8.min ≤ y ∧ y ≤ IntKind.u8.max) : Does Try.prog 4 [.sli (.int .u8) bs .undef, .sli (.int .u8) cs .undef] (.bool true) := by
  cases hlong : (decide (1048576 < bs.length) || decide (1048576 < cs.length)) with
  | true =>
    have e0 : ∀ t t', Does Try.prog 6 [.sli (.int .u8) bs t, .sli (.int .u8) cs t'] (.bool true) := fun t t' => hlong ▸ lLong nb nc
    refine Does.of_awp (X := cx 227) Try.func4 rfl (by kernel_rfl) rfl (by simp [cx]) [] rfl ?_
    conv => whnf
    repeat (first
      | (refine ⟨⟨by kernel_rfl, by kernel_rfl⟩, ?_⟩; conv => whnf)
      | (refine And.intro (by first | omega | (simp; done) | (simp; omega)) ?_; conv => whnf)
      | (refine Or.inl (And.intro (by omega) ?_); conv => whnf)
      | (refine Exists.intro _ (And.intro (e0 _ _) ?_); conv => whnf))
    all_goals (try (conv => whnf))
    all_goals (repeat' (first | exact True.intro | (refine And.intro ?_ ?_ <;> (conv => whnf))))
    all_goals (first | rfl | (simp_all []; done) | (simp only [cond_true, cond_false, Bool.and_true, Bool.true_and, Bool.and_false, Bool.false_and]; rfl) | (simp_all []; omega))
  | false =>
  have e0 : ∀ t t', Does Try.prog 6 [.sli (.int .u8) bs t, .sli (.int .u8) cs t'] (.bool false) := fun t t' => hlong ▸ lLong nb nc
  simp only [Bool.or_eq_false_iff, decide_eq_false_iff_not] at hlong
  have u0 : IntKind.u8.min = 0 := by decide +kernel
  have u1 : IntKind.u8.max = 255 := by decide +kernel
  have hb : Byt bs := ⟨fun b h => by have := lb b h; omega, by omega⟩
  have hc : Byt cs := ⟨fun b h => by have := lc b h; omega, by omega⟩
  have bN := atV_bound cs 0 (n := 12) (by omega)
  obtain ⟨N, hNe⟩ : ∃ N : Nat, atV cs 0 12 = (N : Int) := ⟨(atV cs 0 12).toNat, by omega⟩
  have hN : N ≤ 11 := by omega
  have bF := atV_bound cs 1 (n := 33) (by omega)
  have bH := atV_bound cs 2 (n := 33) (by omega)
  obtain ⟨f, hfe⟩ : ∃ f : Nat, atV cs 1 33 = (f : Int) := ⟨(atV cs 1 33).toNat, by omega⟩
  obtain ⟨q, hqe⟩ : ∃ q : Nat, atV cs 2 33 = (q : Int) := ⟨(atV cs 2 33).toNat, by omega⟩
  have eN : ∀ t, Does Try.prog 8 [.sli (.int .u8) cs t, .int .i64 0, .int .i64 12] (.int .i64 (N : Int)) := fun t => hNe ▸ lAt (i := 0) (n := 12) hc (by omega) (by omega)
  have eF : ∀ t, Does Try.prog 8 [.sli (.int .u8) cs t, .int .i64 1, .int .i64 33] (.int .i64 (f : Int)) := fun t => hfe ▸ lAt (i := 1) (n := 33) hc (by omega) (by omega)
  have eH : ∀ t, Does Try.prog 8 [.sli (.int .u8) cs t, .int .i64 2, .int .i64 33] (.int .i64 (q : Int)) := fun t => hqe ▸ lAt (i := 2) (n := 33) hc (by omega) (by omega)
  have eS : ∀ t, Does Try.prog 17 [.sli (.int .u8) bs t] (.agg [.flt .f32 (oA bs), .flt .f32 (oB bs), .flt .f32 (oC bs), .flt .f32 (oD bs), .flt .f32 (oE bs)]) := fun t => sDrawSoil hb
  have eR : ∀ t, Does Try.prog 9 [.sli (.int .u8) cs t, .int .i64 (N : Int)] (.own 0 .f32 (fsR cs N)) := fun t => sDrawRain hc (by omega)
  have l1 := fsR_len cs N
  obtain ⟨hinv, hall⟩ := soil_inv hb hc hN N (Nat.le_refl _)
  obtain ⟨hso, heN, heL⟩ := o_soil hb
  have hv : ∀ i, i ≤ N → soV (oA bs) (oB bs) (oC bs) (oD bs) (uS bs cs N i) = true := fun i hi => by
    obtain ⟨⟨h1, h2, _⟩, _⟩ := soil_inv hb hc hN i hi
    exact soV_of hso h1 h2
  have hrain : rainB (fsR cs N) = true := by
    unfold rainB leastL
    rw [l1, decide_eq_true (by omega), Bool.true_and]
    exact allN_iff.2 fun i hi => least_nn (hall i hi).fall
  have htk : above tk2 = true := by
    unfold above K
    rw [tk2_dy.fin, tk2_dy.gtr (dy_zero 1 (by omega))]
    rfl
  have eRun : ∀ t, Does Try.prog 18 [.agg [.flt .f32 (oA bs), .flt .f32 (oB bs), .flt .f32 (oC bs), .flt .f32 (oD bs), .flt .f32 (oE bs)], .sli .f32 (fsR cs N) t, .flt .f32 tk2] (.tup [.agg [.flt .f32 (oA bs), .flt .f32 (oB bs), .flt .f32 (oC bs), .flt .f32 (oD bs), .flt .f32 (uS bs cs N N)], .own 0 .f32 (tabN (uO bs cs N) N), .own 1 .f32 (tabN (uL bs cs N) N), .bool true]) := fun t => by
    have := @iRunSoil (oA bs) (oB bs) (oC bs) (oD bs) (oE bs) tk2 (fsR cs N) t (by omega) hrain htk (fun i hi => hv i (by omega)) (fun i hi => fin_nn (hall i (by omega)).off) (fun i hi => fin_nn (hall i (by omega)).lets)
    rw [l1] at this
    exact this
  have eV1 : Does Try.prog 20 [.agg [.flt .f32 (oA bs), .flt .f32 (oB bs), .flt .f32 (oC bs), .flt .f32 (oD bs), .flt .f32 (oE bs)]] (.bool true) := soV_of hso heN heL ▸ iSoil
  have eV2 : Does Try.prog 20 [.agg [.flt .f32 (oA bs), .flt .f32 (oB bs), .flt .f32 (oC bs), .flt .f32 (oD bs), .flt .f32 (uS bs cs N N)]] (.bool true) := hv N (Nat.le_refl _) ▸ iSoil
  have eC1 := iCanTake (soV_of hso heN heL) (fin_nn (can_nn hso heN heL).1)
  have eC2 := iCanTake (soV_of hso hso.nc (Int.le_refl _)) (fin_nn (can_nn hso hso.nc (Int.le_refl _)).1)
  have eT1 : ∀ t, Does Try.prog 13 [.sli .f32 (fsR cs N) t] (.flt .f64 (totW (fsR cs N) N)) := fun t => by
    have := lTotal (xs := fsR cs N) (t := t) (by omega)
    rwa [l1] at this
  have lo : (tabN (uO bs cs N) N).length = N := tabN_len _ _
  have ll : (tabN (uL bs cs N) N).length = N := tabN_len _ _
  have eT2 : ∀ t, Does Try.prog 13 [.sli .f32 (tabN (uO bs cs N) N) t] (.flt .f64 (totW (tabN (uO bs cs N) N) N)) := fun t => by
    have := lTotal (xs := tabN (uO bs cs N) N) (t := t) (by omega)
    rwa [lo] at this
  have eT3 : ∀ t, Does Try.prog 13 [.sli .f32 (tabN (uL bs cs N) N) t] (.flt .f64 (totW (tabN (uL bs cs N) N) N)) := fun t => by
    have := lTotal (xs := tabN (uL bs cs N) N) (t := t) (by omega)
    rwa [ll] at this
  have hgap := soil_gap hb hc hN
  have fin1 : ∀ {b : Bool}, b = false → b = true → False := fun h g => by rw [h] at g; cases g
  refine Does.of_awp (X := cx 227) Try.func4 rfl (by kernel_rfl) rfl (by simp [cx]) [] rfl ?_
  conv => whnf
  repeat (first
    | (refine ⟨⟨by kernel_rfl, by kernel_rfl⟩, ?_⟩; conv => whnf)
    | (refine And.intro (by first | omega | (simp; done) | (simp; omega)) ?_; conv => whnf)
    | (refine Or.inl (And.intro (by omega) ?_); conv => whnf)
    | (refine Exists.intro _ (And.intro (e0 _ _) ?_); conv => whnf)
    | (refine Exists.intro _ (And.intro (eS _) ?_); conv => whnf)
    | (refine Exists.intro _ (And.intro (eN _) ?_); conv => whnf)
    | (refine Exists.intro _ (And.intro (eR _) ?_); conv => whnf)
    | (refine Exists.intro _ (And.intro (eRun _) ?_); conv => whnf)
    | (refine Exists.intro _ (And.intro (eC1) ?_); conv => whnf)
    | (refine Exists.intro _ (And.intro (eV1) ?_); conv => whnf)
    | (refine Exists.intro _ (And.intro (eV2) ?_); conv => whnf)
    | (refine Exists.intro _ (And.intro (eT1 _) ?_); conv => whnf)
    | (refine Exists.intro _ (And.intro (eT2 _) ?_); conv => whnf)
    | (refine Exists.intro _ (And.intro (eT3 _) ?_); conv => whnf)
    | (refine Exists.intro _ (And.intro (lGap) ?_); conv => whnf))
  (refine br_intro (fun hl1 => ?_) (fun hl1 => ?_) <;> (conv => whnf))
  · exfalso; simp at hl1 <;> omega
  repeat (first
    | (refine ⟨⟨by kernel_rfl, by kernel_rfl⟩, ?_⟩; conv => whnf)
    | (refine And.intro (by first | omega | (simp; done) | (simp; omega)) ?_; conv => whnf)
    | (refine Or.inl (And.intro (by omega) ?_); conv => whnf)
    | (refine Exists.intro _ (And.intro (e0 _ _) ?_); conv => whnf)
    | (refine Exists.intro _ (And.intro (eS _) ?_); conv => whnf)
    | (refine Exists.intro _ (And.intro (eN _) ?_); conv => whnf)
    | (refine Exists.intro _ (And.intro (eR _) ?_); conv => whnf)
    | (refine Exists.intro _ (And.intro (eRun _) ?_); conv => whnf)
    | (refine Exists.intro _ (And.intro (eC1) ?_); conv => whnf)
    | (refine Exists.intro _ (And.intro (eV1) ?_); conv => whnf)
    | (refine Exists.intro _ (And.intro (eV2) ?_); conv => whnf)
    | (refine Exists.intro _ (And.intro (eT1 _) ?_); conv => whnf)
    | (refine Exists.intro _ (And.intro (eT2 _) ?_); conv => whnf)
    | (refine Exists.intro _ (And.intro (eT3 _) ?_); conv => whnf)
    | (refine Exists.intro _ (And.intro (lGap) ?_); conv => whnf))
  (refine br_intro (fun hl2 => ?_) (fun hl2 => ?_) <;> (conv => whnf))
  · exfalso; simp at hl2 <;> omega
  repeat (first
    | (refine ⟨⟨by kernel_rfl, by kernel_rfl⟩, ?_⟩; conv => whnf)
    | (refine And.intro (by first | omega | (simp; done) | (simp; omega)) ?_; conv => whnf)
    | (refine Or.inl (And.intro (by omega) ?_); conv => whnf)
    | (refine Exists.intro _ (And.intro (e0 _ _) ?_); conv => whnf)
    | (refine Exists.intro _ (And.intro (eS _) ?_); conv => whnf)
    | (refine Exists.intro _ (And.intro (eN _) ?_); conv => whnf)
    | (refine Exists.intro _ (And.intro (eR _) ?_); conv => whnf)
    | (refine Exists.intro _ (And.intro (eRun _) ?_); conv => whnf)
    | (refine Exists.intro _ (And.intro (eC1) ?_); conv => whnf)
    | (refine Exists.intro _ (And.intro (eV1) ?_); conv => whnf)
    | (refine Exists.intro _ (And.intro (eV2) ?_); conv => whnf)
    | (refine Exists.intro _ (And.intro (eT1 _) ?_); conv => whnf)
    | (refine Exists.intro _ (And.intro (eT2 _) ?_); conv => whnf)
    | (refine Exists.intro _ (And.intro (eT3 _) ?_); conv => whnf)
    | (refine Exists.intro _ (And.intro (lGap) ?_); conv => whnf))
  (refine br_intro (fun hg => ?_) (fun hg => ?_) <;> (conv => whnf))
  · exact (fin1 hgap hg).elim
  repeat (first
    | (refine ⟨⟨by kernel_rfl, by kernel_rfl⟩, ?_⟩; conv => whnf)
    | (refine And.intro (by first | omega | (simp; done) | (simp; omega)) ?_; conv => whnf)
    | (refine Or.inl (And.intro (by omega) ?_); conv => whnf))
  refine ⟨Nat, fun i => i ≤ N, fun i => [(1, .sli (.int .u8) cs .undef), (5, .loc 20 0), (6, .osl 144), (7, .loc 28 0), (8, .osl 160), (9, .osl 161), (11, .flt .f32 (soCan (oA bs) (oB bs) (oE bs))), (13, .loc 52 0), (101, .int .i64 N), (102, .int .i64 i)], fun i => [(144, .tab .f32 (fsR cs N)), (160, .tab .f32 (tabN (uO bs cs N) N)), (161, .tab .f32 (tabN (uL bs cs N) N)), (20, .av [.flt .f32 (oA bs), .flt .f32 (oB bs), .flt .f32 (oC bs), .flt .f32 (oD bs), .flt .f32 (oE bs)]), (28, .av [.flt .f32 (oA bs), .flt .f32 (oB bs), .flt .f32 (oC bs), .flt .f32 (oD bs), .flt .f32 (uS bs cs N N)]), (52, .av [.flt .f32 (oA bs), .flt .f32 (oB bs), .flt .f32 (oC bs), .flt .f32 (oD bs), .flt .f32 (uS bs cs N i)])], fun i => N - i, ⟨0, id, Nat.zero_le _, rfl, ⟨rfl, rfl, rfl, rfl, rfl, rfl, rfl, rfl, congrArg (AV.int .i64) (by rw [l1]), rfl, trivial⟩, ⟨rfl, rfl, rfl, rfl, rfl, rfl, trivial⟩⟩, fun i hi => ?_⟩
  conv => whnf
  (refine br_intro (fun h => ?_) (fun h => ?_) <;> (conv => whnf))
  · have h : i < N := by simp at h; omega
    have hs := hall i h
    have e2 : (tabN (uO bs cs N) N).getD i 0 = uO bs cs N i := tabN_getD (uO bs cs N) h 0
    have e3 : (tabN (uL bs cs N) N).getD i 0 = uL bs cs N i := tabN_getD (uL bs cs N) h 0
    have eSt := iStepSoil (hv i (by omega)) (least_nn hs.fall) htk (hv (i + 1) (by omega)) (fin_nn hs.off) (fin_nn hs.lets)
    have eSt : Does Try.prog 21 [.agg [.flt .f32 (oA bs), .flt .f32 (oB bs), .flt .f32 (oC bs), .flt .f32 (oD bs), .flt .f32 (uS bs cs N i)], .flt .f32 ((fsR cs N).getD i 0), .flt .f32 tk2] (.tup [.agg [.flt .f32 (oA bs), .flt .f32 (oB bs), .flt .f32 (oC bs), .flt .f32 (oD bs), .flt .f32 (uS bs cs N (i + 1))], .flt .f32 (uO bs cs N i), .flt .f32 (uL bs cs N i), .bool true]) := eSt
    have ho : uO bs cs N i < 2 ^ 32 := fop_lt _ _ _
    have hl : uL bs cs N i < 2 ^ 32 := soL_lt (fop_lt _ _ _)
    have eS1 : Does Try.prog 15 [.flt .f32 (uO bs cs N i), .flt .f32 ((tabN (uO bs cs N) N).getD i 0)] (.bool true) := by
      rw [e2]
      have := sSameN ho ho
      rwa [sb_self] at this
    have eS2 : Does Try.prog 15 [.flt .f32 (uL bs cs N i), .flt .f32 ((tabN (uL bs cs N) N).getD i 0)] (.bool true) := by
      rw [e3]
      have := sSameN hl hl
      rwa [sb_self] at this
    have p1 : fcmp .lss .f32 (uO bs cs N i) (canon .f32 0) = false := by
      rw [lss_sv hs.off.1 sv_zero.1, sv_zero.2]; exact decide_eq_false (by have := hs.off.2; omega)
    have p2 : fcmp .gtr .f32 (uO bs cs N i) ((fsR cs N).getD i 0) = false := by
      rw [gtr_sv hs.off.1 hs.fall.1]; exact decide_eq_false (by have := hs.offle; omega)
    have p3 : fcmp .lss .f32 (uL bs cs N i) (canon .f32 0) = false := by
      rw [lss_sv hs.lets.1 sv_zero.1, sv_zero.2]; exact decide_eq_false (by have := hs.lets.2; omega)
    repeat (first
      | (refine ⟨⟨by kernel_rfl, by kernel_rfl⟩, ?_⟩; conv => whnf)
      | (refine And.intro (by first | omega | (simp; done) | (simp; omega)) ?_; conv => whnf)
      | (refine Or.inl (And.intro (by omega) ?_); conv => whnf)
      | (refine Exists.intro _ (And.intro (eSt) ?_); conv => whnf)
      | (refine Exists.intro _ (And.intro (eS1) ?_); conv => whnf)
      | (refine Exists.intro _ (And.intro (eS2) ?_); conv => whnf))
    (refine br_intro (fun c1 => ?_) (fun c1 => ?_) <;> (conv => whnf))
    · exact (fin1 p1 c1).elim
    repeat (first
      | (refine ⟨⟨by kernel_rfl, by kernel_rfl⟩, ?_⟩; conv => whnf)
      | (refine And.intro (by first | omega | (simp; done) | (simp; omega)) ?_; conv => whnf)
      | (refine Or.inl (And.intro (by omega) ?_); conv => whnf)
      | (refine Exists.intro _ (And.intro (eSt) ?_); conv => whnf)
      | (refine Exists.intro _ (And.intro (eS1) ?_); conv => whnf)
      | (refine Exists.intro _ (And.intro (eS2) ?_); conv => whnf))
    (refine br_intro (fun c2 => ?_) (fun c2 => ?_) <;> (conv => whnf))
    · exact (fin1 p2 c2).elim
    repeat (first
      | (refine ⟨⟨by kernel_rfl, by kernel_rfl⟩, ?_⟩; conv => whnf)
      | (refine And.intro (by first | omega | (simp; done) | (simp; omega)) ?_; conv => whnf)
      | (refine Or.inl (And.intro (by omega) ?_); conv => whnf)
      | (refine Exists.intro _ (And.intro (eSt) ?_); conv => whnf)
      | (refine Exists.intro _ (And.intro (eS1) ?_); conv => whnf)
      | (refine Exists.intro _ (And.intro (eS2) ?_); conv => whnf))
    (refine br_intro (fun c3 => ?_) (fun c3 => ?_) <;> (conv => whnf))
    · exact (fin1 p3 c3).elim
    repeat (first
      | (refine ⟨⟨by kernel_rfl, by kernel_rfl⟩, ?_⟩; conv => whnf)
      | (refine And.intro (by first | omega | (simp; done) | (simp; omega)) ?_; conv => whnf)
      | (refine Or.inl (And.intro (by omega) ?_); conv => whnf))
    refine ⟨i + 1, id, ⟨h, by dsimp only; omega⟩, rfl, ⟨rfl, rfl, rfl, rfl, rfl, rfl, rfl, rfl, rfl, rfl, trivial⟩, ⟨rfl, rfl, rfl, rfl, rfl, rfl, trivial⟩⟩
  have h : N = i := by simp at h; omega
  subst h
  have t1 := of_tab tab_curve (show f < 33 by omega)
  have t2 := of_tab t1 (show q < 33 by omega)
  simp only [cuT, cuOk, Bool.and_eq_true, Bool.or_eq_true, Bool.not_eq_true'] at t2
  obtain ⟨⟨⟨⟨⟨a1, a2⟩, b1, b2⟩, f1⟩, f2⟩, f3⟩ := t2
  have qF : fop .quo .f32 (foi .f32 (f : Int)) (canon .f32 1082130432) = qQ f := by unfold qQ; rw [foi_eq]
  have qqH : fop .quo .f32 (foi .f32 (q : Int)) (canon .f32 1082130432) = qQ q := by unfold qQ; rw [foi_eq]
  have qqO : qO q = fop .add .f32 (qQ q) (canon .f32 1065353216) := rfl
  have g1 := iCurve (f := qQ f) (h := qQ q) a1 (fun g => a2.resolve_left (by rw [g]; simp))
  have g2 := iCurve (f := qQ f) (h := qO q) b1 (fun g => b2.resolve_left (by rw [g]; simp))
  rw [qqO] at g2 f3
  rw [← qF, ← qqH] at g1 g2 f1 f2 f3
  have n2 : ∀ {b : Bool}, b = true → b = false → False := fun h g => by rw [h] at g; cases g
  have eSS := iSameSoil (a := oA bs) (b := oB bs) (c := oC bs) (d := oD bs) (e := uS bs cs N N) (fop_lt _ _ _) (fop_lt _ _ _) (fop_lt _ _ _) (fop_lt _ _ _) (soS_lt (fop_lt _ _ _) _)
  have w1 := can_le hb
  have w2 := can_ge hb
  repeat (first
    | (refine ⟨⟨by kernel_rfl, by kernel_rfl⟩, ?_⟩; conv => whnf)
    | (refine And.intro (by first | omega | (simp; done) | (simp; omega)) ?_; conv => whnf)
    | (refine Or.inl (And.intro (by omega) ?_); conv => whnf)
    | (refine Exists.intro _ (And.intro (eC2) ?_); conv => whnf)
    | (refine Exists.intro _ (And.intro (eF _) ?_); conv => whnf)
    | (refine Exists.intro _ (And.intro (eH _) ?_); conv => whnf)
    | (refine Exists.intro _ (And.intro (g1) ?_); conv => whnf)
    | (refine Exists.intro _ (And.intro (g2) ?_); conv => whnf)
    | (refine Exists.intro _ (And.intro (eSS) ?_); conv => whnf))
  (refine br_intro (fun c1 => ?_) (fun c1 => ?_) <;> (conv => whnf))
  · repeat (first
      | (refine ⟨⟨by kernel_rfl, by kernel_rfl⟩, ?_⟩; conv => whnf)
      | (refine And.intro (by first | omega | (simp; done) | (simp; omega)) ?_; conv => whnf)
      | (refine Or.inl (And.intro (by omega) ?_); conv => whnf)
      | (refine Exists.intro _ (And.intro (eC2) ?_); conv => whnf)
      | (refine Exists.intro _ (And.intro (eF _) ?_); conv => whnf)
      | (refine Exists.intro _ (And.intro (eH _) ?_); conv => whnf)
      | (refine Exists.intro _ (And.intro (g1) ?_); conv => whnf)
      | (refine Exists.intro _ (And.intro (g2) ?_); conv => whnf)
      | (refine Exists.intro _ (And.intro (eSS) ?_); conv => whnf))
    (refine br_intro (fun c2 => ?_) (fun c2 => ?_) <;> (conv => whnf))
    · repeat (first
        | (refine ⟨⟨by kernel_rfl, by kernel_rfl⟩, ?_⟩; conv => whnf)
        | (refine And.intro (by first | omega | (simp; done) | (simp; omega)) ?_; conv => whnf)
        | (refine Or.inl (And.intro (by omega) ?_); conv => whnf))
      (refine br_intro (fun c3 => ?_) (fun c3 => ?_) <;> (conv => whnf))
      · repeat (first
          | (refine ⟨⟨by kernel_rfl, by kernel_rfl⟩, ?_⟩; conv => whnf)
          | (refine And.intro (by first | omega | (simp; done) | (simp; omega)) ?_; conv => whnf)
          | (refine Or.inl (And.intro (by omega) ?_); conv => whnf))
        (refine br_intro (fun c4 => ?_) (fun c4 => ?_) <;> (conv => whnf))
        · repeat (first
            | (refine ⟨⟨by kernel_rfl, by kernel_rfl⟩, ?_⟩; conv => whnf)
            | (refine And.intro (by first | omega | (simp; done) | (simp; omega)) ?_; conv => whnf)
            | (refine Or.inl (And.intro (by omega) ?_); conv => whnf))
          exact congrArg AV.bool f3
        · exact (n2 f2 c4).elim
      · exact (n2 f1 c3).elim
    · exact (n2 w2 c2).elim
  · exact (n2 w1 c1).elim

end Go.Proofs.Ytddedcedkpigkaa
