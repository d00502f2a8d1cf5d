/- What each function of this seat does (Rid). Printed from templates of this seat's own. -/
import Derived.Test.YtldlfjcaaaigkaaBas
namespace Go.Proofs.Ytldlfjcaaaigkaa
open Go.Ax Go.Bx
set_option maxRecDepth 8000
set_option linter.unusedSimpArgs false
set_option linter.unusedVariables false
def rdP (bs : List Int) (c : Nat) (r : Int × Nat) : Bool := bs.getD r.1.toNat 0 != bs.getD c 0
noncomputable def rdQ (W H : Int) (bs : List Int) (c : Nat) (k : Nat) : Bool := (nbL W H c k).any (rdP bs c)
theorem rdQ_no {W H : Int} {bs : List Int} {c k : Nat} (h : nbOk W H c k = false) : rdQ W H bs c k = rdQ W H bs c (k + 1) := by
  unfold rdQ; rw [← nbL_no h]
theorem rdQ_yes {W H : Int} {bs : List Int} {c k : Nat} (h : nbOk W H c k = true) : (rdQ W H bs c k || rdP bs c (nbC W c k, farK k)) = rdQ W H bs c (k + 1) := by
  unfold rdQ; rw [← nbL_yes h, List.any_append]; simp
noncomputable def rdL (W H : Int) (ds : List Int) : Nat → List Int
  | 0 => []
  | i + 1 => bif rdQ W H (baS ds ds.length).2 i 8 then rdL W H ds i ++ [(i : Int)] else rdL W H ds i
theorem rdL_len (W H : Int) (ds : List Int) : ∀ i, (rdL W H ds i).length ≤ i
  | 0 => Nat.le_refl _
  | i + 1 => by
    have := rdL_len W H ds i
    rw [rdL]
    cases rdQ W H (baS ds ds.length).2 i 8
    · rw [cond_false]; omega
    · rw [cond_true]; simp; omega
noncomputable def rdO (W H : Int) (xs : List Nat) (ds : List Int) : List Int := bif waysB W H xs ds then rdL W H ds ds.length else []
theorem rdO_len (W H : Int) (xs : List Nat) (ds : List Int) (h : ds.length ≤ 1048576) : (rdO W H xs ds).length ≤ 1048576 := by
  unfold rdO
  cases waysB W H xs ds
  · exact Nat.zero_le _
  · rw [cond_true]; exact Nat.le_trans (rdL_len W H ds _) h
theorem rdL_yes {W H : Int} {ds : List Int} {i : Nat} (h : rdQ W H (baS ds ds.length).2 i 8 = true) : rdL W H ds (i + 1) = rdL W H ds i ++ [(i : Int)] := by rw [rdL, h, cond_true]
theorem rdL_no {W H : Int} {ds : List Int} {i : Nat} (h : rdQ W H (baS ds ds.length).2 i 8 = false) : rdL W H ds (i + 1) = rdL W H ds i := by rw [rdL, h, cond_false]

theorem sRidges {W H : Int} {xs : List Nat} {ds : List Int} {t t2 : AV} (hn : xs.length ≤ 1048576) (hn' : ds.length ≤ 1048576) : Does Try.prog 19 [.agg [.int .i64 W, .int .i64 H, .sli .f32 xs t], .sli (.int .i64) ds t2] (.tup [.own 0 (.int .i64) (rdO W H xs ds), .bool (waysB W H xs ds)]) := by
  refine Does.of_awp (X := cx 59) Try.func19 rfl (by kernel_rfl) rfl (by simp [cx]) [84] rfl ?_
  conv => whnf
  repeat (first
    | (refine ⟨⟨by kernel_rfl, by kernel_rfl⟩, ?_⟩; conv => whnf)
    | (refine And.intro (by first | omega | (simp; done) | (simp; omega)) ?_; conv => whnf)
    | (refine Or.inl (And.intro (by omega) ?_); conv => whnf)
    | (refine Exists.intro _ (And.intro (sWaysB (by first | omega | (simp; done) | (simp; omega)) (by first | omega | (simp; done) | (simp; omega))) ?_); conv => whnf))
  (refine br_intro (fun g1 => ?_) (fun g1 => ?_) <;> (conv => whnf))
  · have g1 : waysB W H xs ds = false := by simpa using g1
    all_goals (try (conv => whnf))
    all_goals (repeat' (first | exact True.intro | (refine And.intro ?_ ?_ <;> (conv => whnf))))
    all_goals (first | rfl | (simp_all [rdO]; done) | (simp only [rdO, cond_true, cond_false, Bool.and_true, Bool.true_and, Bool.and_false, Bool.false_and]; rfl) | (simp_all [rdO]; omega))
  have g1 : waysB W H xs ds = true := by simpa using g1
  have hW := waysB_Wys g1
  have hl := hW.2.1
  have hm := hW.2.2.1
  obtain ⟨b1, b2⟩ := baS_len ds ds.length
  have eO : rdO W H xs ds = rdL W H ds ds.length := by rw [rdO, g1]; rfl
  rw [g1, eO]
  clear eO g1
  repeat (first
    | (refine ⟨⟨by kernel_rfl, by kernel_rfl⟩, ?_⟩; conv => whnf)
    | (refine And.intro (by first | omega | (simp; done) | (simp; omega)) ?_; conv => whnf)
    | (refine Or.inl (And.intro (by omega) ?_); conv => whnf)
    | (refine Exists.intro _ (And.intro (sBas hW) ?_); conv => whnf))
  refine ⟨Nat, fun i => i ≤ ds.length, fun i => [(1, .sli (.int .i64) ds t2), (2, .loc 8 0), (6, .osl 72), (8, .osl 84), (9, .int .i64 i)], fun i => [(8, .av [.int .i64 W, .int .i64 H, .sli .f32 xs t]), (72, .tab (.int .i64) (baS ds ds.length).2), (84, .tab (.int .i64) (rdL W H ds i))], fun i => ds.length - i, ⟨0, id, Nat.zero_le _, rfl, ⟨rfl, rfl, rfl, rfl, rfl, trivial⟩, ⟨rfl, rfl, rfl, trivial⟩⟩, fun i hi => ?_⟩
  dsimp only at hi
  have hrl := rdL_len W H ds i
  conv => whnf
  (refine br_intro (fun h => ?_) (fun h => ?_) <;> (conv => whnf))
  · have h : i < ds.length := by simp at h; omega
    have hC : Cel W H i := ⟨hW.1, by omega, by omega⟩
    have k1 := hW.1.1
    repeat (first
      | (refine ⟨⟨by kernel_rfl, by kernel_rfl⟩, ?_⟩; conv => whnf)
      | (refine And.intro (by first | omega | (simp; done) | (simp; omega)) ?_; conv => whnf)
      | (refine Or.inl (And.intro (by omega) ?_); conv => whnf)
      | (refine Exists.intro _ (And.intro (sNear hC) ?_); conv => whnf))
    refine ⟨Nat, fun k => k ≤ 8, fun k => [(1, .sli (.int .i64) ds t2), (2, .loc 8 0), (6, .osl 72), (8, .osl 84), (9, .int .i64 i), (10, .osl 116), (11, .bool (rdQ W H (baS ds ds.length).2 i k)), (12, .int .i64 k)], fun k => [(8, .av [.int .i64 W, .int .i64 H, .sli .f32 xs t]), (72, .tab (.int .i64) (baS ds ds.length).2), (84, .tab (.int .i64) (rdL W H ds i)), (116, .tab (.int .i64) (nearL W H i))], fun k => 8 - k, ⟨0, id, Nat.zero_le _, rfl, ⟨rfl, rfl, rfl, rfl, rfl, rfl, rfl, rfl, trivial⟩, ⟨rfl, rfl, rfl, rfl, trivial⟩⟩, fun k hk => ?_⟩
    dsimp only at hk
    conv => whnf
    (refine br_intro (fun h2 => ?_) (fun h2 => ?_) <;> (conv => whnf))
    · have h2 : k < 8 := by simp at h2; omega
      have hlN : (nearL W H i).length = 8 := tabN_len _ _
      have hg : (nearL W H i).getD (k : Int).toNat (RK.int .i64).z = nbAt W H i k := nearL_getD h2
      cases hO : nbOk W H i k with
      | false =>
        have hg' := hg
        rw [nbAt_neg hO] at hg'
        have eQ := rdQ_no (bs := (baS ds ds.length).2) hO
        repeat (first
          | (refine ⟨⟨by kernel_rfl, by kernel_rfl⟩, ?_⟩; conv => whnf)
          | (refine And.intro (by first | omega | (simp; done) | (simp; omega)) ?_; conv => whnf)
          | (refine Or.inl (And.intro (by omega) ?_); conv => whnf))
        (refine br_intro (fun h3 => ?_) (fun h3 => ?_) <;> (conv => whnf))
        · exfalso
          have h3 : decide ((nearL W H i).getD (k : Int).toNat (RK.int .i64).z ≥ 0) = true := h3
          rw [hg'] at h3; simp at h3
        · repeat (first
            | (refine ⟨⟨by kernel_rfl, by kernel_rfl⟩, ?_⟩; conv => whnf)
            | (refine And.intro (by first | omega | (simp; done) | (simp; omega)) ?_; conv => whnf)
            | (refine Or.inl (And.intro (by omega) ?_); conv => whnf))
          refine ⟨k + 1, id, ⟨h2, by dsimp only; omega⟩, rfl, ⟨rfl, rfl, rfl, rfl, rfl, rfl, congrArg AV.bool eQ, rfl, trivial⟩, ⟨rfl, rfl, rfl, rfl, trivial⟩⟩
      | true =>
        have r := nbC_range k1 hO
        have hg' := hg
        rw [nbAt_pos hO] at hg'
        have eQ := rdQ_yes (bs := (baS ds ds.length).2) hO
        have eP : rdP (baS ds ds.length).2 i (nbC W i k, farK k) = ((baS ds ds.length).2.getD ((nearL W H i).getD (k : Int).toNat (RK.int .i64).z).toNat 0 != (baS ds ds.length).2.getD i 0) := by rw [rdP, hg']
        repeat (first
          | (refine ⟨⟨by kernel_rfl, by kernel_rfl⟩, ?_⟩; conv => whnf)
          | (refine And.intro (by first | omega | (simp; done) | (simp; omega)) ?_; conv => whnf)
          | (refine Or.inl (And.intro (by omega) ?_); conv => whnf))
        (refine br_intro (fun h3 => ?_) (fun h3 => ?_) <;> (conv => whnf))
        · repeat (first
            | (refine ⟨⟨by kernel_rfl, by kernel_rfl⟩, ?_⟩; conv => whnf)
            | (refine And.intro (by first | omega | (simp; done) | (simp; omega)) ?_; conv => whnf)
            | (refine Or.inl (And.intro (by omega) ?_); conv => whnf))
          (refine br_intro (fun h4 => ?_) (fun h4 => ?_) <;> (conv => whnf))
          · have h4 : ((baS ds ds.length).2.getD ((nearL W H i).getD (k : Int).toNat (RK.int .i64).z).toNat 0 != (baS ds ds.length).2.getD i 0) = true := h4
            rw [eP, h4, Bool.or_true] at eQ
            repeat (first
              | (refine ⟨⟨by kernel_rfl, by kernel_rfl⟩, ?_⟩; conv => whnf)
              | (refine And.intro (by first | omega | (simp; done) | (simp; omega)) ?_; conv => whnf)
              | (refine Or.inl (And.intro (by omega) ?_); conv => whnf))
            refine ⟨k + 1, id, ⟨h2, by dsimp only; omega⟩, rfl, ⟨rfl, rfl, rfl, rfl, rfl, rfl, congrArg AV.bool eQ, rfl, trivial⟩, ⟨rfl, rfl, rfl, rfl, trivial⟩⟩
          · have h4 : ((baS ds ds.length).2.getD ((nearL W H i).getD (k : Int).toNat (RK.int .i64).z).toNat 0 != (baS ds ds.length).2.getD i 0) = false := h4
            rw [eP, h4, Bool.or_false] at eQ
            repeat (first
              | (refine ⟨⟨by kernel_rfl, by kernel_rfl⟩, ?_⟩; conv => whnf)
              | (refine And.intro (by first | omega | (simp; done) | (simp; omega)) ?_; conv => whnf)
              | (refine Or.inl (And.intro (by omega) ?_); conv => whnf))
            refine ⟨k + 1, id, ⟨h2, by dsimp only; omega⟩, rfl, ⟨rfl, rfl, rfl, rfl, rfl, rfl, congrArg AV.bool eQ, rfl, trivial⟩, ⟨rfl, rfl, rfl, rfl, trivial⟩⟩
        · exfalso
          have h3 : decide ((nearL W H i).getD (k : Int).toNat (RK.int .i64).z ≥ 0) = false := h3
          rw [hg'] at h3; simp at h3; omega
    · have h2 : k = 8 := by simp at h2; omega
      subst h2
      repeat (first
        | (refine ⟨⟨by kernel_rfl, by kernel_rfl⟩, ?_⟩; conv => whnf)
        | (refine And.intro (by first | omega | (simp; done) | (simp; omega)) ?_; conv => whnf)
        | (refine Or.inl (And.intro (by omega) ?_); conv => whnf))
      (refine br_intro (fun h3 => ?_) (fun h3 => ?_) <;> (conv => whnf))
      · have h3 : rdQ W H (baS ds ds.length).2 i 8 = true := h3
        have e := rdL_yes h3
        repeat (first
          | (refine ⟨⟨by kernel_rfl, by kernel_rfl⟩, ?_⟩; conv => whnf)
          | (refine And.intro (by first | omega | (simp; done) | (simp; omega)) ?_; conv => whnf)
          | (refine Or.inl (And.intro (by omega) ?_); conv => whnf))
        refine ⟨i + 1, ren [(84, 228)], ⟨h, by dsimp only; omega⟩, rfl, ⟨rfl, rfl, rfl, rfl, rfl, trivial⟩, ⟨rfl, rfl, congrArg (fun l => KS.live (Blk.tab (.int .i64) l)) e.symm, trivial⟩⟩
      · have h3 : rdQ W H (baS ds ds.length).2 i 8 = false := h3
        have e := rdL_no h3
        repeat (first
          | (refine ⟨⟨by kernel_rfl, by kernel_rfl⟩, ?_⟩; conv => whnf)
          | (refine And.intro (by first | omega | (simp; done) | (simp; omega)) ?_; conv => whnf)
          | (refine Or.inl (And.intro (by omega) ?_); conv => whnf))
        refine ⟨i + 1, id, ⟨h, by dsimp only; omega⟩, rfl, ⟨rfl, rfl, rfl, rfl, rfl, trivial⟩, ⟨rfl, rfl, congrArg (fun l => KS.live (Blk.tab (.int .i64) l)) e.symm, trivial⟩⟩
  · have h : i = ds.length := by simp at h; omega
    subst h
    repeat (first
      | (refine ⟨⟨by kernel_rfl, by kernel_rfl⟩, ?_⟩; conv => whnf)
      | (refine And.intro (by first | omega | (simp; done) | (simp; omega)) ?_; conv => whnf)
      | (refine Or.inl (And.intro (by omega) ?_); conv => whnf))
    all_goals (try (conv => whnf))
    all_goals (repeat' (first | exact True.intro | (refine And.intro ?_ ?_ <;> (conv => whnf))))
    all_goals (first | rfl | (simp_all []; done) | (simp only [cond_true, cond_false, Bool.and_true, Bool.true_and, Bool.and_false, Bool.false_and]; rfl) | (simp_all []; omega))

theorem iRidge1 {r : Int × Nat} {bs : List Int} {c : Nat} {u1 u2 u3 : AV} (h1 : 0 ≤ r.1 ∧ r.1 < bs.length) (h2 : c < bs.length) : Does Try.prog 48 [.agg [.int .i64 r.1, .flt .f32 r.2], .ref [.sli (.int .i64) bs u1] u2, .ref [.int .i64 c] u3] (.bool (rdP bs c r)) := by
  refine Does.of_awp (X := cx 15) Try.func48 rfl (by kernel_rfl) rfl (by simp [cx]) [] rfl ?_
  conv => whnf
  repeat (first
    | (refine ⟨⟨by kernel_rfl, by kernel_rfl⟩, ?_⟩; conv => whnf)
    | (refine And.intro (by first | omega | (simp; done) | (simp; omega)) ?_; conv => whnf)
    | (refine Or.inl (And.intro (by omega) ?_); conv => whnf))
  all_goals (try (conv => whnf))
  all_goals (repeat' (first | exact True.intro | (refine And.intro ?_ ?_ <;> (conv => whnf))))
  all_goals (first | rfl | (simp_all [rdP]; done) | (simp only [rdP, cond_true, cond_false, Bool.and_true, Bool.true_and, Bool.and_false, Bool.false_and]; rfl) | (simp_all [rdP]; omega))
theorem xIndexFuncR {xs : List (Int × Nat)} {bs : List Int} {c : Nat} (hn : xs.length ≤ 1048576) (hr : ∀ r ∈ xs, 0 ≤ r.1 ∧ r.1 < bs.length) (hc : c < bs.length) :
    ∃ n : Int, (∀ t u1 u2 u3, Does Try.prog 72 [.sli .nb xs t, .fn 48 [.ref [.sli (.int .i64) bs u1] u2, .ref [.int .i64 c] u3]] (.int .i64 n)) ∧ decide (n ≥ 0) = !allN (fun j => !(rdP bs c (xs.getD j RK.nb.z))) xs.length := by
  have hat : ∀ i, i < xs.length → 0 ≤ (xs.getD i RK.nb.z).1 ∧ (xs.getD i RK.nb.z).1 < bs.length := fun i hi => hr _ (getD_mem hi _)
  by_cases hex : ∃ i, i < xs.length ∧ (!(rdP bs c (xs.getD i RK.nb.z))) = false ∧ allN (fun j => !(rdP bs c (xs.getD j RK.nb.z))) i = true
  · obtain ⟨k, hk, hpk, hak⟩ := hex
    refine ⟨k, fun t u1 u2 u3 => ?_, by rw [allN_false hk hpk]; simp⟩
    refine Does.of_awp (X := cx 19) Try.func72 rfl (by kernel_rfl) rfl (by simp [cx]) [] rfl ?_
    conv => whnf
    refine ⟨Nat, fun i => i ≤ k, fun i => [(0, .sli .nb xs t), (1, .fn 48 [.ref [.sli (.int .i64) bs u1] u2, .ref [.int .i64 c] u3]), (7, .int .i64 xs.length), (8, .int .i64 i)], fun _ => [], fun i => xs.length - i, ⟨0, id, Nat.zero_le _, rfl, ⟨rfl, rfl, rfl, rfl, trivial⟩, trivial⟩, fun i hi => ?_⟩
    conv => whnf
    (refine br_intro (fun h => ?_) (fun h => ?_) <;> (conv => whnf))
    · have h : i < xs.length := by simp at h; omega
      have hb := hat i h
      have eb : ∀ u1 u2 u3, Does Try.prog 48 [.agg [.int .i64 (xs.getD i RK.nb.z).1, .flt .f32 (xs.getD i RK.nb.z).2], .ref [.sli (.int .i64) bs u1] u2, .ref [.int .i64 c] u3] (.bool (rdP bs c (xs.getD i RK.nb.z))) := fun u1 u2 u3 => iRidge1 hb hc
      repeat (first
        | (refine ⟨⟨by kernel_rfl, by kernel_rfl⟩, ?_⟩; conv => whnf)
        | (refine And.intro (by first | omega | (simp; done) | (simp; omega)) ?_; conv => whnf)
        | (refine Or.inl (And.intro (by omega) ?_); conv => whnf)
        | (refine Exists.intro _ (And.intro (eb _ _ _) ?_); conv => whnf))
      (refine br_intro (fun hs => ?_) (fun hs => ?_) <;> (conv => whnf))
      · have hs : rdP bs c (xs.getD i RK.nb.z) = true := hs
        have : ¬ i < k := fun hlt => by have := allN_iff.1 hak i hlt; simp only [hs] at this; cases this
        have : i = k := by dsimp only at hi; omega
        subst this
        all_goals (try (conv => whnf))
        all_goals (repeat' (first | exact True.intro | (refine And.intro ?_ ?_ <;> (conv => whnf))))
        all_goals (first | rfl | (simp_all []; done) | (simp only [cond_true, cond_false, Bool.and_true, Bool.true_and, Bool.and_false, Bool.false_and]; rfl) | (simp_all []; omega))
      · have hs : rdP bs c (xs.getD i RK.nb.z) = false := hs
        have : i ≠ k := fun e => by subst e; rw [hs] at hpk; cases hpk
        repeat (first
          | (refine ⟨⟨by kernel_rfl, by kernel_rfl⟩, ?_⟩; conv => whnf)
          | (refine And.intro (by first | omega | (simp; done) | (simp; omega)) ?_; conv => whnf)
          | (refine Or.inl (And.intro (by omega) ?_); conv => whnf))
        refine ⟨i + 1, id, ⟨by dsimp only at hi ⊢; omega, by dsimp only; omega⟩, rfl, ⟨rfl, rfl, rfl, rfl, trivial⟩, trivial⟩
    · exfalso; simp at h; dsimp only at hi; omega
  · have hall : ∀ i, i ≤ xs.length → allN (fun j => !(rdP bs c (xs.getD j RK.nb.z))) i = true := by
      intro i
      induction i with
      | zero => intro _; rfl
      | succ i ih =>
        intro hi
        have ih := ih (by omega)
        rw [allN, ih, Bool.true_and]
        cases hp : (!(rdP bs c (xs.getD i RK.nb.z))) with
        | true => rfl
        | false => exact absurd ⟨i, by omega, hp, ih⟩ hex
    refine ⟨-1, fun t u1 u2 u3 => ?_, by rw [hall _ (Nat.le_refl _)]; simp⟩
    refine Does.of_awp (X := cx 19) Try.func72 rfl (by kernel_rfl) rfl (by simp [cx]) [] rfl ?_
    conv => whnf
    refine ⟨Nat, fun i => i ≤ xs.length, fun i => [(0, .sli .nb xs t), (1, .fn 48 [.ref [.sli (.int .i64) bs u1] u2, .ref [.int .i64 c] u3]), (7, .int .i64 xs.length), (8, .int .i64 i)], fun _ => [], fun i => xs.length - i, ⟨0, id, Nat.zero_le _, rfl, ⟨rfl, rfl, rfl, rfl, trivial⟩, trivial⟩, fun i hi => ?_⟩
    conv => whnf
    (refine br_intro (fun h => ?_) (fun h => ?_) <;> (conv => whnf))
    · have h : i < xs.length := by simp at h; omega
      have hb := hat i h
      have eb : ∀ u1 u2 u3, Does Try.prog 48 [.agg [.int .i64 (xs.getD i RK.nb.z).1, .flt .f32 (xs.getD i RK.nb.z).2], .ref [.sli (.int .i64) bs u1] u2, .ref [.int .i64 c] u3] (.bool (rdP bs c (xs.getD i RK.nb.z))) := fun u1 u2 u3 => iRidge1 hb hc
      repeat (first
        | (refine ⟨⟨by kernel_rfl, by kernel_rfl⟩, ?_⟩; conv => whnf)
        | (refine And.intro (by first | omega | (simp; done) | (simp; omega)) ?_; conv => whnf)
        | (refine Or.inl (And.intro (by omega) ?_); conv => whnf)
        | (refine Exists.intro _ (And.intro (eb _ _ _) ?_); conv => whnf))
      (refine br_intro (fun hs => ?_) (fun hs => ?_) <;> (conv => whnf))
      · have hs : rdP bs c (xs.getD i RK.nb.z) = true := hs
        have := allN_iff.1 (hall _ (Nat.le_refl _)) i h
        simp only [hs] at this; cases this
      · repeat (first
          | (refine ⟨⟨by kernel_rfl, by kernel_rfl⟩, ?_⟩; conv => whnf)
          | (refine And.intro (by first | omega | (simp; done) | (simp; omega)) ?_; conv => whnf)
          | (refine Or.inl (And.intro (by omega) ?_); conv => whnf))
        refine ⟨i + 1, id, ⟨h, by dsimp only; omega⟩, rfl, ⟨rfl, rfl, rfl, rfl, trivial⟩, trivial⟩
theorem any_allR {xs : List (Int × Nat)} {p : Int × Nat → Bool} : (!allN (fun j => !(p (xs.getD j RK.nb.z))) xs.length) = xs.any p := by
  rw [allN_list (fun r : Int × Nat => !(p r)) xs RK.nb.z, ← List.not_any_eq_all_not, Bool.not_not]
theorem xContainsFuncR {xs : List (Int × Nat)} {t u1 u2 u3 : AV} {bs : List Int} {c : Nat} (hn : xs.length ≤ 1048576) (hr : ∀ r ∈ xs, 0 ≤ r.1 ∧ r.1 < bs.length) (hc : c < bs.length) :
    Does Try.prog 46 [.sli .nb xs t, .fn 48 [.ref [.sli (.int .i64) bs u1] u2, .ref [.int .i64 c] u3]] (.bool (xs.any (rdP bs c))) := by
  obtain ⟨n, h1, h2⟩ := xIndexFuncR (xs := xs) hn hr hc
  rw [← any_allR, ← h2]
  clear h2
  refine Does.of_awp (X := cx 9) Try.func46 rfl (by kernel_rfl) rfl (by simp [cx]) [] rfl ?_
  conv => whnf
  repeat (first
    | (refine ⟨⟨by kernel_rfl, by kernel_rfl⟩, ?_⟩; conv => whnf)
    | (refine And.intro (by first | omega | (simp; done) | (simp; omega)) ?_; conv => whnf)
    | (refine Or.inl (And.intro (by omega) ?_); conv => whnf)
    | (refine Exists.intro _ (And.intro (h1 _ _ _ _) ?_); conv => whnf))
  all_goals (try (conv => whnf))
  all_goals (repeat' (first | exact True.intro | (refine And.intro ?_ ?_ <;> (conv => whnf))))
  all_goals (first | rfl | (simp_all []; done) | (simp only [cond_true, cond_false, Bool.and_true, Bool.true_and, Bool.and_false, Bool.false_and]; rfl) | (simp_all []; omega))

theorem iRidges {W H : Int} {xs : List Nat} {ds : List Int} {t t2 : AV} (hn : xs.length ≤ 1048576) (hn' : ds.length ≤ 1048576) : Does Try.prog 20 [.agg [.int .i64 W, .int .i64 H, .sli .f32 xs t], .sli (.int .i64) ds t2] (.tup [.own 0 (.int .i64) (rdO W H xs ds), .bool (waysB W H xs ds)]) := by
  refine Does.of_awp (X := cx 36) Try.func20 rfl (by kernel_rfl) rfl (by simp [cx]) [76] rfl ?_
  conv => whnf
  repeat (first
    | (refine ⟨⟨by kernel_rfl, by kernel_rfl⟩, ?_⟩; conv => whnf)
    | (refine And.intro (by first | omega | (simp; done) | (simp; omega)) ?_; conv => whnf)
    | (refine Or.inl (And.intro (by omega) ?_); conv => whnf)
    | (refine Exists.intro _ (And.intro (iWaysB (by first | omega | (simp; done) | (simp; omega)) (by first | omega | (simp; done) | (simp; omega))) ?_); conv => whnf))
  (refine br_intro (fun g1 => ?_) (fun g1 => ?_) <;> (conv => whnf))
  · have g1 : waysB W H xs ds = false := by simpa using g1
    all_goals (try (conv => whnf))
    all_goals (repeat' (first | exact True.intro | (refine And.intro ?_ ?_ <;> (conv => whnf))))
    all_goals (first | rfl | (simp_all [rdO]; done) | (simp only [rdO, cond_true, cond_false, Bool.and_true, Bool.true_and, Bool.and_false, Bool.false_and]; rfl) | (simp_all [rdO]; omega))
  have g1 : waysB W H xs ds = true := by simpa using g1
  have hW := waysB_Wys g1
  have hl := hW.2.1
  have hm := hW.2.2.1
  obtain ⟨b1, b2⟩ := baS_len ds ds.length
  have eO : rdO W H xs ds = rdL W H ds ds.length := by rw [rdO, g1]; rfl
  rw [g1, eO]
  clear eO g1
  repeat (first
    | (refine ⟨⟨by kernel_rfl, by kernel_rfl⟩, ?_⟩; conv => whnf)
    | (refine And.intro (by first | omega | (simp; done) | (simp; omega)) ?_; conv => whnf)
    | (refine Or.inl (And.intro (by omega) ?_); conv => whnf)
    | (refine Exists.intro _ (And.intro (iBas hW) ?_); conv => whnf))
  refine ⟨Nat, fun i => i ≤ ds.length, fun i => [(1, .sli (.int .i64) ds t2), (2, .loc 8 0), (6, .loc 24 0), (8, .osl 76), (21, .int .i64 ds.length), (22, .int .i64 i)], fun i => [(8, .av [.int .i64 W, .int .i64 H, .sli .f32 xs t]), (24, .av [.osl 64]), (64, .tab (.int .i64) (baS ds ds.length).2), (76, .tab (.int .i64) (rdL W H ds i))], fun i => ds.length - i, ⟨0, id, Nat.zero_le _, rfl, ⟨rfl, rfl, rfl, rfl, rfl, rfl, trivial⟩, ⟨rfl, rfl, rfl, rfl, trivial⟩⟩, fun i hi => ?_⟩
  dsimp only at hi
  have hrl := rdL_len W H ds i
  conv => whnf
  (refine br_intro (fun h => ?_) (fun h => ?_) <;> (conv => whnf))
  · have h : i < ds.length := by simp at h; omega
    have hC : Cel W H i := ⟨hW.1, by omega, by omega⟩
    have hlen := nbL_len W H i 8
    have e : ∀ t u1 u2 u3, Does Try.prog 46 [.sli .nb (nbL W H i 8) t, .fn 48 [.ref [.sli (.int .i64) (baS ds ds.length).2 u1] u2, .ref [.int .i64 i] u3]] (.bool (rdQ W H (baS ds ds.length).2 i 8)) := fun t u1 u2 u3 =>
      xContainsFuncR (by omega) (fun r hr => by have := nbL_mem hW.1.1 hr; rw [b2]; omega) (by rw [b2]; exact h)
    repeat (first
      | (refine ⟨⟨by kernel_rfl, by kernel_rfl⟩, ?_⟩; conv => whnf)
      | (refine And.intro (by first | omega | (simp; done) | (simp; omega)) ?_; conv => whnf)
      | (refine Or.inl (And.intro (by omega) ?_); conv => whnf)
      | (refine Exists.intro _ (And.intro (iNbrs hC) ?_); conv => whnf)
      | (refine Exists.intro _ (And.intro (e _ _ _ _) ?_); conv => whnf))
    (refine br_intro (fun h3 => ?_) (fun h3 => ?_) <;> (conv => whnf))
    · have h3 : rdQ W H (baS ds ds.length).2 i 8 = true := h3
      have e := rdL_yes h3
      repeat (first
        | (refine ⟨⟨by kernel_rfl, by kernel_rfl⟩, ?_⟩; conv => whnf)
        | (refine And.intro (by first | omega | (simp; done) | (simp; omega)) ?_; conv => whnf)
        | (refine Or.inl (And.intro (by omega) ?_); conv => whnf))
      refine ⟨i + 1, ren [(76, 132)], ⟨h, by dsimp only; omega⟩, rfl, ⟨rfl, rfl, rfl, rfl, rfl, rfl, trivial⟩, ⟨rfl, rfl, rfl, congrArg (fun l => KS.live (Blk.tab (.int .i64) l)) e.symm, trivial⟩⟩
    · have h3 : rdQ W H (baS ds ds.length).2 i 8 = false := h3
      have e := rdL_no h3
      repeat (first
        | (refine ⟨⟨by kernel_rfl, by kernel_rfl⟩, ?_⟩; conv => whnf)
        | (refine And.intro (by first | omega | (simp; done) | (simp; omega)) ?_; conv => whnf)
        | (refine Or.inl (And.intro (by omega) ?_); conv => whnf))
      refine ⟨i + 1, id, ⟨h, by dsimp only; omega⟩, rfl, ⟨rfl, rfl, rfl, rfl, rfl, rfl, trivial⟩, ⟨rfl, rfl, rfl, congrArg (fun l => KS.live (Blk.tab (.int .i64) l)) e.symm, trivial⟩⟩
  · have h : i = ds.length := by simp at h; omega
    subst h
    repeat (first
      | (refine ⟨⟨by kernel_rfl, by kernel_rfl⟩, ?_⟩; conv => whnf)
      | (refine And.intro (by first | omega | (simp; done) | (simp; omega)) ?_; conv => whnf)
      | (refine Or.inl (And.intro (by omega) ?_); conv => whnf))
    all_goals (try (conv => whnf))
    all_goals (repeat' (first | exact True.intro | (refine And.intro ?_ ?_ <;> (conv => whnf))))
    all_goals (first | rfl | (simp_all []; done) | (simp only [cond_true, cond_false, Bool.and_true, Bool.true_and, Bool.and_false, Bool.false_and]; rfl) | (simp_all []; omega))

theorem lawRidges (W H : Int) (xs : List Nat) (_ : (IntKind.i64.min ≤ W ∧ W ≤ IntKind.i64.max) ∧ IntKind.i64.min ≤ H ∧ H ≤ IntKind.i64.max) (hn : xs.length < 2 ^ 63) (_ : ∀ y ∈ xs, y < 2 ^ 32) (ds : List Int) (hn' : ds.length < 2 ^ 63) (_ : ∀ y ∈ ds, IntKind.i64.min ≤ y ∧ y ≤ IntKind.i64.max) : Does Try.prog 4 [.agg [.int .i64 W, .int .i64 H, .sli .f32 xs .undef], .sli (.int .i64) ds .undef] (.bool true) := by
  refine Does.of_awp (X := cx 117) Try.func4 rfl (by kernel_rfl) rfl (by simp [cx]) [] rfl ?_
  conv => whnf
  repeat (first
    | (refine ⟨⟨by kernel_rfl, by kernel_rfl⟩, ?_⟩; conv => whnf)
    | (refine And.intro (by first | omega | (simp; done) | (simp; omega)) ?_; conv => whnf)
    | (refine Or.inl (And.intro (by omega) ?_); conv => whnf))
  (refine br_intro (fun h => ?_) (fun h => ?_) <;> (conv => whnf))
  have hc : ds.length ≤ 1048576 := by simp at h; omega
  by_cases hl : xs.length ≤ 1048576
  · have h3 := rdO_len W H xs ds hc
    repeat (first
      | (refine ⟨⟨by kernel_rfl, by kernel_rfl⟩, ?_⟩; conv => whnf)
      | (refine And.intro (by first | omega | (simp; done) | (simp; omega)) ?_; conv => whnf)
      | (refine Or.inl (And.intro (by omega) ?_); conv => whnf)
      | (refine br_intro (fun h => by exfalso; first | (simp at h; done) | (simp at h; omega) | omega) (fun _ => ?_); conv => whnf)
      | (refine br_intro (fun _ => ?_) (fun h => by exfalso; first | (simp at h; done) | (simp at h; omega) | omega); conv => whnf)
      | (refine Exists.intro _ (And.intro (lSzHill (by first | omega | (simp; done) | (simp; omega)) (by first | omega | (simp; done) | (simp; omega))) ?_); conv => whnf)
      | (refine Exists.intro _ (And.intro (lToHill (by first | omega | (simp; done) | (simp; omega))) ?_); conv => whnf)
      | (refine Exists.intro _ (And.intro (lToI (by first | omega | (simp; done) | (simp; omega))) ?_); conv => whnf)
      | (refine Exists.intro _ (And.intro (sRidges (by first | omega | (simp; done) | (simp; omega)) (by first | omega | (simp; done) | (simp; omega))) ?_); conv => whnf)
      | (refine Exists.intro _ (And.intro (iRidges (by first | omega | (simp; done) | (simp; omega)) (by first | omega | (simp; done) | (simp; omega))) ?_); conv => whnf)
      | (refine Exists.intro _ (And.intro (lEqHill (by first | omega | (simp; done) | (simp; omega))) ?_); conv => whnf)
      | (refine Exists.intro _ (And.intro (lEqI (by first | omega | (simp; done) | (simp; omega))) ?_); conv => whnf)
      | (refine Exists.intro _ (Exists.intro _ (And.intro (And.intro (lMarkHill (by first | omega | (simp; done) | (simp; omega)) (by first | omega | (simp; done) | (simp; omega)) (by first | omega | (simp; done) | (simp; omega))) (by simp)) ?_)); conv => whnf)
      | (refine Exists.intro _ (Exists.intro _ (And.intro (And.intro (lMarkI (by first | omega | (simp; done) | (simp; omega)) (by first | omega | (simp; done) | (simp; omega)) (by first | omega | (simp; done) | (simp; omega))) (by simp)) ?_)); conv => whnf)
      | (refine Exists.intro _ (And.intro (lHeldI (by first | omega | (simp; done) | (simp; omega)) (by first | omega | (simp; done) | (simp; omega)) (by first | omega | (simp; done) | (simp; omega))) ?_); conv => whnf)
      | (refine Exists.intro _ (And.intro (lHeldHill (by first | omega | (simp; done) | (simp; omega)) (by first | omega | (simp; done) | (simp; omega)) (by first | omega | (simp; done) | (simp; omega))) ?_); conv => whnf))
  · repeat (first
      | (refine ⟨⟨by kernel_rfl, by kernel_rfl⟩, ?_⟩; conv => whnf)
      | (refine And.intro (by first | omega | (simp; done) | (simp; omega)) ?_; conv => whnf)
      | (refine Or.inl (And.intro (by omega) ?_); conv => whnf)
      | (refine br_intro (fun h => by exfalso; first | (simp at h; done) | (simp at h; omega) | omega) (fun _ => ?_); conv => whnf)
      | (refine br_intro (fun _ => ?_) (fun h => by exfalso; first | (simp at h; done) | (simp at h; omega) | omega); conv => whnf)
      | (refine Exists.intro _ (And.intro (lSzHill' (by first | omega | (simp; done) | (simp; omega)) (by first | omega | (simp; done) | (simp; omega)) (by first | omega | (simp; done) | (simp; omega))) ?_); conv => whnf))

end Go.Proofs.Ytldlfjcaaaigkaa
