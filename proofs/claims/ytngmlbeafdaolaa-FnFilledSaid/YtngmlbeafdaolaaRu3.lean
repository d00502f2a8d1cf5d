/- What each function of this seat does (Ru3). Printed from templates of this seat's own. -/
import Derived.Test.YtngmlbeafdaolaaRu2
namespace Go.Proofs.Ytngmlbeafdaolaa
open Go.Ax Go.Bx
set_option maxRecDepth 8000
set_option linter.unusedSimpArgs false
set_option linter.unusedVariables false
theorem stA_list {W H : Int} {f : List Nat} {s : List Int} {i : Nat} (h : ∀ j, j < (nbL W H i 8).length → fcmp .eql .f32 (f.getD ((nbL W H i 8).getD j RK.nb.z).1.toNat 0) (f.getD i 0) = true → s.getD i 0 ≤ s.getD ((nbL W H i 8).getD j RK.nb.z).1.toNat 0 + 1) : stAt W H f s i := fun k hk hA => by
  unfold stA at hA
  rw [Bool.and_eq_true] at hA
  obtain ⟨r, h1, h2⟩ := nbL_in hA.1 hk
  obtain ⟨j, hj, e⟩ := List.getElem_of_mem h1
  have := h j hj
  rw [show (nbL W H i 8).getD j RK.nb.z = r from by rw [List.getD_eq_getElem?_getD, List.getElem?_eq_getElem hj]; exact e, h2] at this
  exact this hA.2
theorem foB_range {W H : Int} {f : List Nat} {s : List Int} (hh : HillW W H f) {i j : Nat} : -1 ≤ fo (bwF f s i) (-1) (nbL W H i 8) j ∧ fo (bwF f s i) (-1) (nbL W H i 8) j < f.length :=
  fo_range hh (fun r hr => List.mem_of_mem_take hr) (-1) (by omega)
theorem stW_zero {W H : Int} {f : List Nat} {ds s : List Int} (h : stFix 256 W H f ds s) {i : Nat} (hi : i < f.length) : (s.getD i 0 == 0) = stZ W H ds i := by
  obtain ⟨g1, g2, g3, g4⟩ := h.1.2.1 i hi
  cases hz : stZ W H ds i with
  | true => rw [g1 hz]; rfl
  | false =>
    have := g2 hz
    exact beq_eq_false_iff_ne.2 (by omega)

set_option maxHeartbeats 4000000 in
theorem iRunWays {W H : Int} {xs : List Nat} {t : AV} (hl : ∀ y ∈ xs, y < 2 ^ 32) (hn : xs.length ≤ 1048576) : Does Try.prog 9 [.agg [.int .i64 W, .int .i64 H, .sli .f32 xs t]] (.tup [.own 0 (.int .i64) (rwO W H xs), .bool (rwB W H xs)]) := by
  have eF : ∀ t, Does Try.prog 17 [.agg [.int .i64 W, .int .i64 H, .sli .f32 xs t]] (filV W H xs) := fun t => iFillHill hl hn
  unfold filV filO at eF
  cases g1 : hillB W H xs with
  | false =>
    have eB : rwB W H xs = false := by rw [rwB, g1]; rfl
    have eO : rwO W H xs = [] := by rw [rwO, eB]; rfl
    rw [eB, eO]
    simp only [g1, selI, cond_false] at eF
    refine Does.of_awp (X := cx 158) Try.func9 rfl (by kernel_rfl) rfl (by simp [cx]) [112] rfl ?_
    conv => whnf
    repeat (first
      | (refine ⟨⟨by kernel_rfl, by kernel_rfl⟩, ?_⟩; conv => whnf)
      | (refine And.intro (by first | omega | (simp; done) | (simp; omega)) ?_; conv => whnf)
      | (refine Or.inl (And.intro (by omega) ?_); conv => whnf)
      | (refine Exists.intro _ (And.intro (eF _) ?_); conv => whnf))
    all_goals (try (conv => whnf))
    all_goals (repeat' (first | exact True.intro | (refine And.intro ?_ ?_ <;> (conv => whnf))))
    all_goals (first | rfl | (simp_all []; done) | (simp only [cond_true, cond_false, Bool.and_true, Bool.true_and, Bool.and_false, Bool.false_and]; rfl) | (simp_all []; omega))
  | true =>
    have hh : HillW W H xs := ⟨g1, hl⟩
    simp only [g1, selI, cond_true] at eF
    obtain ⟨k1, k2, k3, k4, k5, k6, k7⟩ := hill_len g1
    obtain ⟨w1, w2⟩ := filW_ok hh
    have eD : ∀ t, Does Try.prog 28 [.agg [.int .i64 W, .int .i64 H, .sli .f32 (filW W H xs) t]] (.tup [.own 0 (.int .i64) (waO W H (filW W H xs)), .bool (waC W H (filW W H xs))]) := fun t => iWays (by omega)
    have eB : rwB W H xs = waC W H (filW W H xs) := by rw [rwB, g1]; rfl
    refine Does.of_awp (X := cx 158) Try.func9 rfl (by kernel_rfl) rfl (by simp [cx]) [112] rfl ?_
    conv => whnf
    cases hC : waC W H (filW W H xs) with
    | false =>
      rw [hC] at eD eB
      have eO : rwO W H xs = [] := by rw [rwO, eB]; rfl
      rw [eB, eO]
      repeat (first
        | (refine ⟨⟨by kernel_rfl, by kernel_rfl⟩, ?_⟩; conv => whnf)
        | (refine And.intro (by first | omega | (simp; done) | (simp; omega)) ?_; conv => whnf)
        | (refine Or.inl (And.intro (by omega) ?_); conv => whnf)
        | (refine Exists.intro _ (And.intro (eF _) ?_); conv => whnf)
        | (refine Exists.intro _ (And.intro (eD _) ?_); conv => whnf))
      all_goals (try (conv => whnf))
      all_goals (repeat' (first | exact True.intro | (refine And.intro ?_ ?_ <;> (conv => whnf))))
      all_goals (first | rfl | (simp_all []; done) | (simp only [cond_true, cond_false, Bool.and_true, Bool.true_and, Bool.and_false, Bool.false_and]; rfl) | (simp_all []; omega))
    | true =>
      have eW : waO W H (filW W H xs) = waL W H (filW W H xs) := by rw [waO, hC]; rfl
      rw [hC, eW] at eD
      rw [hC] at eB
      have hdl : (waL W H (filW W H xs)).length = (filW W H xs).length := by rw [waL, tabN_len]; omega
      have eO : rwO W H xs = rwL 256 W H (filW W H xs) (waL W H (filW W H xs)) := by rw [rwO, eB]; rfl
      rw [eB, eO]
      have eL : rwL 256 W H (filW W H xs) (waL W H (filW W H xs)) = wrN (waL W H (filW W H xs)) (rwF 256 W H (filW W H xs) (waL W H (filW W H xs))) (waL W H (filW W H xs)).length := by rw [wrN_all]; rfl
      rw [eL]
      clear eB eO eW hC eL
      generalize filW W H xs = f at *
      generalize waL W H f = ds at *
      repeat (first
        | (refine ⟨⟨by kernel_rfl, by kernel_rfl⟩, ?_⟩; conv => whnf)
        | (refine And.intro (by first | omega | (simp; done) | (simp; omega)) ?_; conv => whnf)
        | (refine Or.inl (And.intro (by omega) ?_); conv => whnf)
        | (refine Exists.intro _ (And.intro (eF _) ?_); conv => whnf)
        | (refine Exists.intro _ (And.intro (eD _) ?_); conv => whnf))
      refine ⟨Nat, fun i => i ≤ ds.length, fun i => [(4, .loc 16 0), (6, .osl 112), (7, .osl 132), (34, .osl 112), (35, .int .i64 ds.length), (36, .int .i64 i)], fun i => [(16, .av [.int .i64 W, .int .i64 H, .osl 84]), (84, .tab .f32 f), (112, .tab (.int .i64) ds), (132, .tab (.int .i64) (tabN (siF 256 W H ds) i))], fun i => ds.length - i, ⟨0, id, Nat.zero_le _, rfl, ⟨rfl, rfl, rfl, rfl, rfl, rfl, trivial⟩, ⟨rfl, rfl, rfl, rfl, trivial⟩⟩, fun i hi => ?_⟩
      dsimp only at hi
      have htl := tabN_len (siF 256 W H ds) i
      conv => whnf
      (refine br_intro (fun h => ?_) (fun h => ?_) <;> (conv => whnf))
      · have h : i < ds.length := by simp at h; omega
        have hC : Cel W H i := ⟨⟨k1, k2, k3, k4⟩, by omega, by omega⟩
        repeat (first
          | (refine ⟨⟨by kernel_rfl, by kernel_rfl⟩, ?_⟩; conv => whnf)
          | (refine And.intro (by first | omega | (simp; done) | (simp; omega)) ?_; conv => whnf)
          | (refine Or.inl (And.intro (by omega) ?_); conv => whnf))
        (refine br_intro (fun h2 => ?_) (fun h2 => ?_) <;> (conv => whnf))
        · have h2 : decide (ds.getD i 0 ≥ 0) = true := h2
          have e : (0 : Int) = siF 256 W H ds i := by rw [siF, stZ, h2, Bool.or_true]; rfl
          repeat (first
            | (refine ⟨⟨by kernel_rfl, by kernel_rfl⟩, ?_⟩; conv => whnf)
            | (refine And.intro (by first | omega | (simp; done) | (simp; omega)) ?_; conv => whnf)
            | (refine Or.inl (And.intro (by omega) ?_); conv => whnf)
            | (refine br_intro (fun h => by exfalso; first | (simp at h; done) | (simp at h; omega) | omega) (fun _ => ?_); conv => whnf)
            | (refine br_intro (fun _ => ?_) (fun h => by exfalso; first | (simp at h; done) | (simp at h; omega) | omega); conv => whnf))
          refine ⟨i + 1, ren [(132, 204)], ⟨h, by dsimp only; omega⟩, rfl, ⟨rfl, rfl, rfl, rfl, rfl, rfl, trivial⟩, ⟨rfl, rfl, rfl, congrArg (fun x => KS.live (Blk.tab (.int .i64) (tabN (siF 256 W H ds) i ++ [x]))) e, trivial⟩⟩
        · have h2 : decide (ds.getD i 0 ≥ 0) = false := h2
          repeat (first
            | (refine ⟨⟨by kernel_rfl, by kernel_rfl⟩, ?_⟩; conv => whnf)
            | (refine And.intro (by first | omega | (simp; done) | (simp; omega)) ?_; conv => whnf)
            | (refine Or.inl (And.intro (by omega) ?_); conv => whnf)
            | (refine Exists.intro _ (And.intro (iEdge hC) ?_); conv => whnf))
          (refine br_intro (fun h3 => ?_) (fun h3 => ?_) <;> (conv => whnf))
          · have h3 : edB W H i = true := h3
            have e : (0 : Int) = siF 256 W H ds i := by rw [siF, stZ, h3, Bool.true_or]; rfl
            repeat (first
              | (refine ⟨⟨by kernel_rfl, by kernel_rfl⟩, ?_⟩; conv => whnf)
              | (refine And.intro (by first | omega | (simp; done) | (simp; omega)) ?_; conv => whnf)
              | (refine Or.inl (And.intro (by omega) ?_); conv => whnf)
              | (refine br_intro (fun h => by exfalso; first | (simp at h; done) | (simp at h; omega) | omega) (fun _ => ?_); conv => whnf)
              | (refine br_intro (fun _ => ?_) (fun h => by exfalso; first | (simp at h; done) | (simp at h; omega) | omega); conv => whnf))
            refine ⟨i + 1, ren [(132, 204)], ⟨h, by dsimp only; omega⟩, rfl, ⟨rfl, rfl, rfl, rfl, rfl, rfl, trivial⟩, ⟨rfl, rfl, rfl, congrArg (fun x => KS.live (Blk.tab (.int .i64) (tabN (siF 256 W H ds) i ++ [x]))) e, trivial⟩⟩
          · have h3 : edB W H i = false := h3
            have e : (256 : Int) = siF 256 W H ds i := by rw [siF, stZ, h2, h3]; rfl
            repeat (first
              | (refine ⟨⟨by kernel_rfl, by kernel_rfl⟩, ?_⟩; conv => whnf)
              | (refine And.intro (by first | omega | (simp; done) | (simp; omega)) ?_; conv => whnf)
              | (refine Or.inl (And.intro (by omega) ?_); conv => whnf)
              | (refine br_intro (fun h => by exfalso; first | (simp at h; done) | (simp at h; omega) | omega) (fun _ => ?_); conv => whnf)
              | (refine br_intro (fun _ => ?_) (fun h => by exfalso; first | (simp at h; done) | (simp at h; omega) | omega); conv => whnf))
            refine ⟨i + 1, ren [(132, 204)], ⟨h, by dsimp only; omega⟩, rfl, ⟨rfl, rfl, rfl, rfl, rfl, rfl, trivial⟩, ⟨rfl, rfl, rfl, congrArg (fun x => KS.live (Blk.tab (.int .i64) (tabN (siF 256 W H ds) i ++ [x]))) e, trivial⟩⟩
      have h : i = ds.length := by simp at h; omega
      subst h
      have hI0 : stInv 256 W H f ds (tabN (siF 256 W H ds) ds.length) := by rw [hdl]; exact st_init (by omega)
      repeat (first
        | (refine ⟨⟨by kernel_rfl, by kernel_rfl⟩, ?_⟩; conv => whnf)
        | (refine And.intro (by first | omega | (simp; done) | (simp; omega)) ?_; conv => whnf)
        | (refine Or.inl (And.intro (by omega) ?_); conv => whnf))
      refine ⟨List Int × Bool, fun p => stInv 256 W H f ds p.1 ∧ (p.2 = false → stFix 256 W H f ds p.1), fun p => [(4, .loc 16 0), (6, .osl 112), (7, .osl 132), (11, .bool p.2)], fun p => [(16, .av [.int .i64 W, .int .i64 H, .osl 84]), (84, .tab .f32 f), (112, .tab (.int .i64) ds), (132, .tab (.int .i64) p.1)], fun p => 2 * sw p.1 + (bif p.2 then 1 else 0), ⟨(tabN (siF 256 W H ds) ds.length, true), id, ⟨hI0, fun e => by cases e⟩, rfl, ⟨rfl, rfl, rfl, rfl, trivial⟩, ⟨rfl, rfl, rfl, rfl, trivial⟩⟩, fun p hp => ?_⟩
      obtain ⟨o0, c0⟩ := p
      obtain ⟨hI, hF⟩ := hp
      dsimp only at hI hF
      clear hI0 htl
      have hol0 := hI.1
      conv => whnf
      (refine br_intro (fun hc => ?_) (fun hc => ?_) <;> (conv => whnf))
      · have hc : c0 = true := hc
        subst hc
        repeat (first
          | (refine ⟨⟨by kernel_rfl, by kernel_rfl⟩, ?_⟩; conv => whnf)
          | (refine And.intro (by first | omega | (simp; done) | (simp; omega)) ?_; conv => whnf)
          | (refine Or.inl (And.intro (by omega) ?_); conv => whnf))
        refine ⟨List Int × Bool × Nat, fun q => stInv 256 W H f ds q.1 ∧ q.2.2 ≤ f.length ∧ (q.2.1 = true → sw q.1 < sw o0) ∧ (q.2.1 = false → q.1 = o0 ∧ ∀ j : Nat, j < q.2.2 → stAt W H f o0 j), fun q => [(4, .loc 16 0), (6, .osl 112), (7, .osl 132), (11, .bool q.2.1), (55, .int .i64 o0.length), (56, .int .i64 q.2.2)], fun q => [(16, .av [.int .i64 W, .int .i64 H, .osl 84]), (84, .tab .f32 f), (112, .tab (.int .i64) ds), (132, .tab (.int .i64) q.1)], fun q => f.length - q.2.2, ⟨(o0, false, 0), id, ⟨hI, Nat.zero_le _, (fun e => by cases e), fun _ => ⟨rfl, fun j hj => by dsimp only at hj; omega⟩⟩, rfl, ⟨rfl, rfl, rfl, rfl, rfl, rfl, trivial⟩, ⟨rfl, rfl, rfl, rfl, trivial⟩⟩, fun q hq => ?_⟩
        obtain ⟨o, ch, i⟩ := q
        obtain ⟨hJ, hi, hw1, hw2⟩ := hq
        dsimp only at hJ hi hw1 hw2
        conv => whnf
        (refine br_intro (fun h => ?_) (fun h => ?_) <;> (conv => whnf))
        · have h : i < f.length := by simp at h; omega
          have hC : Cel W H i := ⟨⟨k1, k2, k3, k4⟩, by omega, by omega⟩
          have hlen := nbL_len W H i 8
          repeat (first
            | (refine ⟨⟨by kernel_rfl, by kernel_rfl⟩, ?_⟩; conv => whnf)
            | (refine And.intro (by first | omega | (simp; done) | (simp; omega)) ?_; conv => whnf)
            | (refine Or.inl (And.intro (by omega) ?_); conv => whnf)
            | (refine Exists.intro _ (And.intro (iNbrs hC) ?_); conv => whnf))
          refine ⟨List Int × Bool × Nat, fun q => stInv 256 W H f ds q.1 ∧ q.2.2 ≤ (nbL W H i 8).length ∧ (q.2.1 = true → sw q.1 < sw o0) ∧ (q.2.1 = false → q.1 = o0 ∧ (∀ j : Nat, j < i → stAt W H f o0 j) ∧ ∀ j, j < q.2.2 → fcmp .eql .f32 (f.getD ((nbL W H i 8).getD j RK.nb.z).1.toNat 0) (f.getD i 0) = true → o0.getD i 0 ≤ o0.getD ((nbL W H i 8).getD j RK.nb.z).1.toNat 0 + 1), fun q => [(4, .loc 16 0), (6, .osl 112), (7, .osl 132), (11, .bool q.2.1), (12, .int .i64 i), (55, .int .i64 o0.length), (56, .int .i64 i), (61, .osl 244), (62, .int .i64 (nbL W H i 8).length), (63, .int .i64 q.2.2)], fun q => [(16, .av [.int .i64 W, .int .i64 H, .osl 84]), (84, .tab .f32 f), (112, .tab (.int .i64) ds), (132, .tab (.int .i64) q.1), (244, .tab .nb (nbL W H i 8))], fun q => (nbL W H i 8).length - q.2.2, ⟨(o, ch, 0), id, ⟨hJ, Nat.zero_le _, hw1, fun e => ⟨(hw2 e).1, (hw2 e).2, fun k hk => by dsimp only at hk; omega⟩⟩, rfl, ⟨rfl, rfl, rfl, rfl, rfl, rfl, rfl, rfl, rfl, rfl, trivial⟩, ⟨rfl, rfl, rfl, rfl, rfl, trivial⟩⟩, fun q hq => ?_⟩
          clear hJ hw1 hw2
          obtain ⟨o, ch, j⟩ := q
          obtain ⟨hJ, hj, hw1, hw2⟩ := hq
          dsimp only at hJ hj hw1 hw2
          have hol := hJ.1
          conv => whnf
          (refine br_intro (fun h2 => ?_) (fun h2 => ?_) <;> (conv => whnf))
          · have h2 : j < (nbL W H i 8).length := by simp at h2; omega
            have hm : (nbL W H i 8).getD j RK.nb.z ∈ nbL W H i 8 := getD_mem h2 _
            obtain ⟨k, hk8, hO, hrk⟩ := nbL_ex hm
            obtain ⟨r1, r2, r3⟩ := nbC_lt w1 hO
            have hr : 0 ≤ ((nbL W H i 8).getD j RK.nb.z).1 ∧ ((nbL W H i 8).getD j RK.nb.z).1 < f.length := by rw [hrk]; exact ⟨r1, r2⟩
            have hb1 := (hJ.2.1 _ r3).2.2
            have hb2 := (hJ.2.1 i h).2.2
            rw [← hrk] at hb1
            have hr2 := hr
            have hm2 : j < (nbL W H i 8).length := h2
            have hb3 := hb1
            simp at hr2 hm2 hb3
            have next : fcmp .eql .f32 (f.getD ((nbL W H i 8).getD j RK.nb.z).1.toNat 0) (f.getD i 0) = false ∨ (o.getD i 0 ≤ o.getD ((nbL W H i 8).getD j RK.nb.z).1.toNat 0 + 1) → (ch = false → o = o0 ∧ (∀ j : Nat, j < i → stAt W H f o0 j) ∧ ∀ j', j' < j + 1 → fcmp .eql .f32 (f.getD ((nbL W H i 8).getD j' RK.nb.z).1.toNat 0) (f.getD i 0) = true → o0.getD i 0 ≤ o0.getD ((nbL W H i 8).getD j' RK.nb.z).1.toNat 0 + 1) := fun hor e => by
              obtain ⟨e1, e2, e3⟩ := hw2 e
              refine ⟨e1, e2, fun j' hj' hA => ?_⟩
              rcases Nat.lt_or_eq_of_le (show j' ≤ j from Nat.le_of_lt_succ hj') with h' | h'
              · exact e3 j' h' hA
              · subst h'
                rcases hor with hor | hor
                · rw [hor] at hA; cases hA
                · rw [← e1]; exact hor
            repeat (first
              | (refine ⟨⟨by kernel_rfl, by kernel_rfl⟩, ?_⟩; conv => whnf)
              | (refine And.intro (by first | omega | (simp; done) | (simp; omega)) ?_; conv => whnf)
              | (refine Or.inl (And.intro (by omega) ?_); conv => whnf))
            (refine br_intro (fun h4 => ?_) (fun h4 => ?_) <;> (conv => whnf))
            · have h4 : fcmp .eql .f32 (f.getD ((nbL W H i 8).getD j RK.nb.z).1.toNat 0) (f.getD i 0) = true := h4
              have hA : stA W H f i k = true := by rw [stA_eq hO, ← hrk]; exact h4
              repeat (first
                | (refine ⟨⟨by kernel_rfl, by kernel_rfl⟩, ?_⟩; conv => whnf)
                | (refine And.intro (by first | omega | (simp; done) | (simp; omega)) ?_; conv => whnf)
                | (refine Or.inl (And.intro (by omega) ?_); conv => whnf))
              (refine br_intro (fun h5 => ?_) (fun h5 => ?_) <;> (conv => whnf))
              · have h5 : decide (o.getD ((nbL W H i 8).getD j RK.nb.z).1.toNat 0 + 1 < o.getD i 0) = true := h5
                have hV : o.getD ((nbL W H i 8).getD j RK.nb.z).1.toNat 0 + 1 = o.getD (nbC W i k).toNat 0 + 1 := by rw [hrk]
                rw [hV] at h5
                have h5 := of_decide_eq_true h5
                obtain ⟨u1, u2⟩ := st_upd w1 hJ h hk8 hA h5
                have hwo := sw_le hw1 fun e => (hw2 e).1
                repeat (first
                  | (refine ⟨⟨by kernel_rfl, by kernel_rfl⟩, ?_⟩; conv => whnf)
                  | (refine And.intro (by first | omega | (simp; done) | (simp; omega)) ?_; conv => whnf)
                  | (refine Or.inl (And.intro (by omega) ?_); conv => whnf))
                refine ⟨(o.set i (o.getD (nbC W i k).toNat 0 + 1), true, j + 1), id, ⟨⟨u1, h2, fun _ => Nat.lt_of_lt_of_le u2 hwo, fun e => by cases e⟩, by dsimp only; omega⟩, rfl, ⟨rfl, rfl, rfl, rfl, rfl, rfl, rfl, rfl, rfl, rfl, trivial⟩, ⟨rfl, rfl, rfl, congrArg (fun x => KS.live (Blk.tab (.int .i64) (o.set i x))) hV, rfl, trivial⟩⟩
              · have h5 : decide (o.getD ((nbL W H i 8).getD j RK.nb.z).1.toNat 0 + 1 < o.getD i 0) = false := h5
                have h5 := of_decide_eq_false h5
                repeat (first
                  | (refine ⟨⟨by kernel_rfl, by kernel_rfl⟩, ?_⟩; conv => whnf)
                  | (refine And.intro (by first | omega | (simp; done) | (simp; omega)) ?_; conv => whnf)
                  | (refine Or.inl (And.intro (by omega) ?_); conv => whnf)
                  | (refine br_intro (fun h => by exfalso; first | (simp at h; done) | (simp at h; omega) | omega) (fun _ => ?_); conv => whnf)
                  | (refine br_intro (fun _ => ?_) (fun h => by exfalso; first | (simp at h; done) | (simp at h; omega) | omega); conv => whnf))
                refine ⟨(o, ch, j + 1), id, ⟨⟨hJ, h2, hw1, next (.inr (by omega))⟩, by dsimp only; omega⟩, rfl, ⟨rfl, rfl, rfl, rfl, rfl, rfl, rfl, rfl, rfl, rfl, trivial⟩, ⟨rfl, rfl, rfl, rfl, rfl, trivial⟩⟩
            · have h4 : fcmp .eql .f32 (f.getD ((nbL W H i 8).getD j RK.nb.z).1.toNat 0) (f.getD i 0) = false := h4
              repeat (first
                | (refine ⟨⟨by kernel_rfl, by kernel_rfl⟩, ?_⟩; conv => whnf)
                | (refine And.intro (by first | omega | (simp; done) | (simp; omega)) ?_; conv => whnf)
                | (refine Or.inl (And.intro (by omega) ?_); conv => whnf)
                | (refine br_intro (fun h => by exfalso; first | (simp at h; done) | (simp at h; omega) | omega) (fun _ => ?_); conv => whnf)
                | (refine br_intro (fun _ => ?_) (fun h => by exfalso; first | (simp at h; done) | (simp at h; omega) | omega); conv => whnf))
              refine ⟨(o, ch, j + 1), id, ⟨⟨hJ, h2, hw1, next (.inl h4)⟩, by dsimp only; omega⟩, rfl, ⟨rfl, rfl, rfl, rfl, rfl, rfl, rfl, rfl, rfl, rfl, trivial⟩, ⟨rfl, rfl, rfl, rfl, rfl, trivial⟩⟩
          · have h2 : j = (nbL W H i 8).length := by simp at h2; omega
            subst h2
            repeat (first
              | (refine ⟨⟨by kernel_rfl, by kernel_rfl⟩, ?_⟩; conv => whnf)
              | (refine And.intro (by first | omega | (simp; done) | (simp; omega)) ?_; conv => whnf)
              | (refine Or.inl (And.intro (by omega) ?_); conv => whnf))
            refine ⟨(o, ch, i + 1), id, ⟨⟨hJ, h, hw1, fun e => ⟨(hw2 e).1, fun j hj => ?_⟩⟩, by dsimp only; omega⟩, rfl, ⟨rfl, rfl, rfl, rfl, rfl, rfl, trivial⟩, ⟨rfl, rfl, rfl, rfl, trivial⟩⟩
            rcases Nat.lt_or_eq_of_le (show j ≤ i from Nat.le_of_lt_succ hj) with h' | h'
            · exact (hw2 e).2.1 j h'
            · subst h'; exact stA_list (hw2 e).2.2
        · have h : i = f.length := by simp at h; omega
          subst h
          repeat (first
            | (refine ⟨⟨by kernel_rfl, by kernel_rfl⟩, ?_⟩; conv => whnf)
            | (refine And.intro (by first | omega | (simp; done) | (simp; omega)) ?_; conv => whnf)
            | (refine Or.inl (And.intro (by omega) ?_); conv => whnf))
          refine ⟨(o, ch), id, ⟨⟨hJ, fun e => ⟨hJ, fun j hj => ?_⟩⟩, ?_⟩, rfl, ⟨rfl, rfl, rfl, rfl, trivial⟩, ⟨rfl, rfl, rfl, rfl, trivial⟩⟩
          · have := (hw2 e).2 j hj
            rw [(hw2 e).1]; exact this
          · dsimp only
            cases ch
            · rw [(hw2 rfl).1, cond_true, cond_false]; omega
            · have := hw1 rfl
              rw [cond_true]; omega
      have hc : c0 = false := hc
      subst hc
      have hX := hF rfl
      have eS := stW_eq hX
      clear hF hI hol0
      rw [eS] at hX
      subst eS
      have hSl := hX.1.1
      repeat (first
        | (refine ⟨⟨by kernel_rfl, by kernel_rfl⟩, ?_⟩; conv => whnf)
        | (refine And.intro (by first | omega | (simp; done) | (simp; omega)) ?_; conv => whnf)
        | (refine Or.inl (And.intro (by omega) ?_); conv => whnf))
      refine ⟨Nat, fun i => i ≤ ds.length, fun i => [(4, .loc 16 0), (6, .osl 112), (7, .osl 132), (104, .int .i64 ds.length), (105, .int .i64 i)], fun i => [(16, .av [.int .i64 W, .int .i64 H, .osl 84]), (84, .tab .f32 f), (112, .tab (.int .i64) (wrN ds (rwF 256 W H f ds) i)), (132, .tab (.int .i64) (stW 256 W H f ds))], fun i => ds.length - i, ⟨0, id, Nat.zero_le _, rfl, ⟨rfl, rfl, rfl, rfl, rfl, trivial⟩, ⟨rfl, rfl, rfl, rfl, trivial⟩⟩, fun i hi => ?_⟩
      dsimp only at hi
      have hwl := wrN_length ds (rwF 256 W H f ds) i
      conv => whnf
      (refine br_intro (fun h => ?_) (fun h => ?_) <;> (conv => whnf))
      · have h : i < ds.length := by simp at h; omega
        have hif : i < f.length := by omega
        have hC : Cel W H i := ⟨⟨k1, k2, k3, k4⟩, by omega, by omega⟩
        have hlen := nbL_len W H i 8
        have hz := stW_zero hX hif
        repeat (first
          | (refine ⟨⟨by kernel_rfl, by kernel_rfl⟩, ?_⟩; conv => whnf)
          | (refine And.intro (by first | omega | (simp; done) | (simp; omega)) ?_; conv => whnf)
          | (refine Or.inl (And.intro (by omega) ?_); conv => whnf))
        (refine br_intro (fun h2 => ?_) (fun h2 => ?_) <;> (conv => whnf))
        · have h2 : ((stW 256 W H f ds).getD i 0 == 0) = true := h2
          rw [hz] at h2
          have e := wrN_skip (f := rwF 256 W H f ds) (d := 0) h (rwF_Z h2)
          repeat (first
            | (refine ⟨⟨by kernel_rfl, by kernel_rfl⟩, ?_⟩; conv => whnf)
            | (refine And.intro (by first | omega | (simp; done) | (simp; omega)) ?_; conv => whnf)
            | (refine Or.inl (And.intro (by omega) ?_); conv => whnf)
            | (refine br_intro (fun h => by exfalso; first | (simp at h; done) | (simp at h; omega) | omega) (fun _ => ?_); conv => whnf)
            | (refine br_intro (fun _ => ?_) (fun h => by exfalso; first | (simp at h; done) | (simp at h; omega) | omega); conv => whnf))
          refine ⟨i + 1, id, ⟨h, by dsimp only; omega⟩, rfl, ⟨rfl, rfl, rfl, rfl, rfl, trivial⟩, ⟨rfl, rfl, congrArg (fun l => KS.live (Blk.tab (.int .i64) l)) e, rfl, trivial⟩⟩
        · have h2 : ((stW 256 W H f ds).getD i 0 == 0) = false := h2
          rw [hz] at h2
          repeat (first
            | (refine ⟨⟨by kernel_rfl, by kernel_rfl⟩, ?_⟩; conv => whnf)
            | (refine And.intro (by first | omega | (simp; done) | (simp; omega)) ?_; conv => whnf)
            | (refine Or.inl (And.intro (by omega) ?_); conv => whnf)
            | (refine Exists.intro _ (And.intro (iNbrs hC) ?_); conv => whnf))
          refine ⟨Nat, fun j => j ≤ (nbL W H i 8).length, fun j => [(4, .loc 16 0), (6, .osl 112), (7, .osl 132), (15, .int .i64 i), (16, .int .i64 (fo (bwF f (stW 256 W H f ds) i) (-1) (nbL W H i 8) j)), (104, .int .i64 ds.length), (105, .int .i64 i), (115, .osl 460), (116, .int .i64 (nbL W H i 8).length), (117, .int .i64 j)], fun j => [(16, .av [.int .i64 W, .int .i64 H, .osl 84]), (84, .tab .f32 f), (112, .tab (.int .i64) (wrN ds (rwF 256 W H f ds) i)), (132, .tab (.int .i64) (stW 256 W H f ds)), (460, .tab .nb (nbL W H i 8))], fun j => (nbL W H i 8).length - j, ⟨0, id, Nat.zero_le _, rfl, ⟨rfl, rfl, rfl, rfl, rfl, rfl, rfl, rfl, rfl, rfl, trivial⟩, ⟨rfl, rfl, rfl, rfl, rfl, trivial⟩⟩, fun j hj => ?_⟩
          dsimp only at hj
          have hbr := foB_range (s := stW 256 W H f ds) (i := i) (j := j) w1
          conv => whnf
          (refine br_intro (fun h4 => ?_) (fun h4 => ?_) <;> (conv => whnf))
          · have h4 : j < (nbL W H i 8).length := by simp at h4; omega
            have hm : (nbL W H i 8).getD j RK.nb.z ∈ nbL W H i 8 := getD_mem h4 _
            obtain ⟨k, hk8, hO, hrk⟩ := nbL_ex hm
            obtain ⟨r1, r2, r3⟩ := nbC_lt w1 hO
            have hr : 0 ≤ ((nbL W H i 8).getD (j : Int).toNat RK.nb.z).1 ∧ ((nbL W H i 8).getD (j : Int).toNat RK.nb.z).1 < f.length := by
              show 0 ≤ ((nbL W H i 8).getD j RK.nb.z).1 ∧ ((nbL W H i 8).getD j RK.nb.z).1 < f.length
              rw [hrk]; exact ⟨r1, r2⟩
            have hfo := fo_succ (bwF f (stW 256 W H f ds) i) (-1) h4 RK.nb.z
            repeat (first
              | (refine ⟨⟨by kernel_rfl, by kernel_rfl⟩, ?_⟩; conv => whnf)
              | (refine And.intro (by first | omega | (simp; done) | (simp; omega)) ?_; conv => whnf)
              | (refine Or.inl (And.intro (by omega) ?_); conv => whnf))
            (refine br_intro (fun h6 => ?_) (fun h6 => ?_) <;> (conv => whnf))
            · have h6 : fcmp .eql .f32 (f.getD ((nbL W H i 8).getD j RK.nb.z).1.toNat 0) (f.getD i 0) = true := h6
              repeat (first
                | (refine ⟨⟨by kernel_rfl, by kernel_rfl⟩, ?_⟩; conv => whnf)
                | (refine And.intro (by first | omega | (simp; done) | (simp; omega)) ?_; conv => whnf)
                | (refine Or.inl (And.intro (by omega) ?_); conv => whnf))
              (refine br_intro (fun h7 => ?_) (fun h7 => ?_) <;> (conv => whnf))
              · have h7 : decide (fo (bwF f (stW 256 W H f ds) i) (-1) (nbL W H i 8) j < 0) = true := h7
                rw [bwF_neg h6 (of_decide_eq_true h7)] at hfo
                repeat (first
                  | (refine ⟨⟨by kernel_rfl, by kernel_rfl⟩, ?_⟩; conv => whnf)
                  | (refine And.intro (by first | omega | (simp; done) | (simp; omega)) ?_; conv => whnf)
                  | (refine Or.inl (And.intro (by omega) ?_); conv => whnf)
                  | (refine br_intro (fun h => by exfalso; first | (simp at h; done) | (simp at h; omega) | omega) (fun _ => ?_); conv => whnf)
                  | (refine br_intro (fun _ => ?_) (fun h => by exfalso; first | (simp at h; done) | (simp at h; omega) | omega); conv => whnf))
                refine ⟨j + 1, id, ⟨h4, by dsimp only; omega⟩, rfl, ⟨rfl, rfl, rfl, rfl, congrArg (AV.int .i64) hfo.symm, rfl, rfl, rfl, rfl, rfl, trivial⟩, ⟨rfl, rfl, rfl, rfl, rfl, trivial⟩⟩
              · have h7 : decide (fo (bwF f (stW 256 W H f ds) i) (-1) (nbL W H i 8) j < 0) = false := h7
                have h7 := of_decide_eq_false h7
                repeat (first
                  | (refine ⟨⟨by kernel_rfl, by kernel_rfl⟩, ?_⟩; conv => whnf)
                  | (refine And.intro (by first | omega | (simp; done) | (simp; omega)) ?_; conv => whnf)
                  | (refine Or.inl (And.intro (by omega) ?_); conv => whnf))
                (refine br_intro (fun h8 => ?_) (fun h8 => ?_) <;> (conv => whnf))
                · have h8 : decide ((stW 256 W H f ds).getD ((nbL W H i 8).getD j RK.nb.z).1.toNat 0 < (stW 256 W H f ds).getD (fo (bwF f (stW 256 W H f ds) i) (-1) (nbL W H i 8) j).toNat 0) = true := h8
                  rw [bwF_lt h6 (of_decide_eq_true h8)] at hfo
                  repeat (first
                    | (refine ⟨⟨by kernel_rfl, by kernel_rfl⟩, ?_⟩; conv => whnf)
                    | (refine And.intro (by first | omega | (simp; done) | (simp; omega)) ?_; conv => whnf)
                    | (refine Or.inl (And.intro (by omega) ?_); conv => whnf)
                    | (refine br_intro (fun h => by exfalso; first | (simp at h; done) | (simp at h; omega) | omega) (fun _ => ?_); conv => whnf)
                    | (refine br_intro (fun _ => ?_) (fun h => by exfalso; first | (simp at h; done) | (simp at h; omega) | omega); conv => whnf))
                  refine ⟨j + 1, id, ⟨h4, by dsimp only; omega⟩, rfl, ⟨rfl, rfl, rfl, rfl, congrArg (AV.int .i64) hfo.symm, rfl, rfl, rfl, rfl, rfl, trivial⟩, ⟨rfl, rfl, rfl, rfl, rfl, trivial⟩⟩
                · have h8 : decide ((stW 256 W H f ds).getD ((nbL W H i 8).getD j RK.nb.z).1.toNat 0 < (stW 256 W H f ds).getD (fo (bwF f (stW 256 W H f ds) i) (-1) (nbL W H i 8) j).toNat 0) = false := h8
                  rw [bwF_ge h7 (of_decide_eq_false h8)] at hfo
                  repeat (first
                    | (refine ⟨⟨by kernel_rfl, by kernel_rfl⟩, ?_⟩; conv => whnf)
                    | (refine And.intro (by first | omega | (simp; done) | (simp; omega)) ?_; conv => whnf)
                    | (refine Or.inl (And.intro (by omega) ?_); conv => whnf)
                    | (refine br_intro (fun h => by exfalso; first | (simp at h; done) | (simp at h; omega) | omega) (fun _ => ?_); conv => whnf)
                    | (refine br_intro (fun _ => ?_) (fun h => by exfalso; first | (simp at h; done) | (simp at h; omega) | omega); conv => whnf))
                  refine ⟨j + 1, id, ⟨h4, by dsimp only; omega⟩, rfl, ⟨rfl, rfl, rfl, rfl, congrArg (AV.int .i64) hfo.symm, rfl, rfl, rfl, rfl, rfl, trivial⟩, ⟨rfl, rfl, rfl, rfl, rfl, trivial⟩⟩
            · have h6 : fcmp .eql .f32 (f.getD ((nbL W H i 8).getD j RK.nb.z).1.toNat 0) (f.getD i 0) = false := h6
              rw [bwF_ne h6] at hfo
              repeat (first
                | (refine ⟨⟨by kernel_rfl, by kernel_rfl⟩, ?_⟩; conv => whnf)
                | (refine And.intro (by first | omega | (simp; done) | (simp; omega)) ?_; conv => whnf)
                | (refine Or.inl (And.intro (by omega) ?_); conv => whnf)
                | (refine br_intro (fun h => by exfalso; first | (simp at h; done) | (simp at h; omega) | omega) (fun _ => ?_); conv => whnf)
                | (refine br_intro (fun _ => ?_) (fun h => by exfalso; first | (simp at h; done) | (simp at h; omega) | omega); conv => whnf))
              refine ⟨j + 1, id, ⟨h4, by dsimp only; omega⟩, rfl, ⟨rfl, rfl, rfl, rfl, congrArg (AV.int .i64) hfo.symm, rfl, rfl, rfl, rfl, rfl, trivial⟩, ⟨rfl, rfl, rfl, rfl, rfl, trivial⟩⟩
          · have h4 : j = (nbL W H i 8).length := by simp at h4; omega
            subst h4
            have e : fo (bwF f (stW 256 W H f ds) i) (-1) (nbL W H i 8) (nbL W H i 8).length = rwF 256 W H f ds i := by rw [fo_all, rwF_no h2]; rfl
            repeat (first
              | (refine ⟨⟨by kernel_rfl, by kernel_rfl⟩, ?_⟩; conv => whnf)
              | (refine And.intro (by first | omega | (simp; done) | (simp; omega)) ?_; conv => whnf)
              | (refine Or.inl (And.intro (by omega) ?_); conv => whnf))
            refine ⟨i + 1, id, ⟨h, by dsimp only; omega⟩, rfl, ⟨rfl, rfl, rfl, rfl, rfl, trivial⟩, ⟨rfl, rfl, congrArg (fun x => KS.live (Blk.tab (.int .i64) ((wrN ds (rwF 256 W H f ds) i).set i x))) e, rfl, trivial⟩⟩
      · have h : i = ds.length := by simp at h; omega
        subst h
        repeat (first
          | (refine ⟨⟨by kernel_rfl, by kernel_rfl⟩, ?_⟩; conv => whnf)
          | (refine And.intro (by first | omega | (simp; done) | (simp; omega)) ?_; conv => whnf)
          | (refine Or.inl (And.intro (by omega) ?_); conv => whnf))
        all_goals (try (conv => whnf))
        all_goals (repeat' (first | exact True.intro | (refine And.intro ?_ ?_ <;> (conv => whnf))))
        all_goals (first | rfl | (simp_all []; done) | (simp only [cond_true, cond_false, Bool.and_true, Bool.true_and, Bool.and_false, Bool.false_and]; rfl) | (simp_all []; omega))

theorem lawRunWays (W H : Int) (xs : List Nat) (_ : (IntKind.i64.min ≤ W ∧ W ≤ IntKind.i64.max) ∧ IntKind.i64.min ≤ H ∧ H ≤ IntKind.i64.max) (hn : xs.length < 2 ^ 63) (h32 : ∀ y ∈ xs, y < 2 ^ 32) : Does Try.prog 3 [.agg [.int .i64 W, .int .i64 H, .sli .f32 xs .undef]] (.bool true) := by
  by_cases hl : xs.length ≤ 1048576
  · have h3 := rwO_len W H xs
    refine Does.of_awp (X := cx 96) Try.func3 rfl (by kernel_rfl) rfl (by simp [cx]) [] rfl ?_
    conv => whnf
    repeat (first
      | (refine ⟨⟨by kernel_rfl, by kernel_rfl⟩, ?_⟩; conv => whnf)
      | (refine And.intro (by first | omega | (simp; done) | (simp; omega)) ?_; conv => whnf)
      | (refine Or.inl (And.intro (by omega) ?_); conv => whnf)
      | (refine br_intro (fun h => by exfalso; first | (simp at h; done) | (simp at h; omega) | omega) (fun _ => ?_); conv => whnf)
      | (refine br_intro (fun _ => ?_) (fun h => by exfalso; first | (simp at h; done) | (simp at h; omega) | omega); conv => whnf)
      | (refine Exists.intro _ (And.intro (lSzHill (by first | omega | (simp; done) | (simp; omega)) (by first | omega | (simp; done) | (simp; omega))) ?_); conv => whnf)
      | (refine Exists.intro _ (And.intro (lToHill (by first | omega | (simp; done) | (simp; omega))) ?_); conv => whnf)
      | (refine Exists.intro _ (And.intro (sRunWays h32 (by first | omega | (simp; done) | (simp; omega))) ?_); conv => whnf)
      | (refine Exists.intro _ (And.intro (iRunWays h32 (by first | omega | (simp; done) | (simp; omega))) ?_); conv => whnf)
      | (refine Exists.intro _ (And.intro (lEqHill (by first | omega | (simp; done) | (simp; omega))) ?_); conv => whnf)
      | (refine Exists.intro _ (And.intro (lEqI (by first | omega | (simp; done) | (simp; omega))) ?_); conv => whnf)
      | (refine Exists.intro _ (Exists.intro _ (And.intro (And.intro (lMarkHill (by first | omega | (simp; done) | (simp; omega)) (by first | omega | (simp; done) | (simp; omega)) (by first | omega | (simp; done) | (simp; omega))) (by simp)) ?_)); conv => whnf)
      | (refine Exists.intro _ (Exists.intro _ (And.intro (And.intro (lMarkI (by first | omega | (simp; done) | (simp; omega)) (by first | omega | (simp; done) | (simp; omega)) (by first | omega | (simp; done) | (simp; omega))) (by simp)) ?_)); conv => whnf)
      | (refine Exists.intro _ (And.intro (lHeldI (by first | omega | (simp; done) | (simp; omega)) (by first | omega | (simp; done) | (simp; omega)) (by first | omega | (simp; done) | (simp; omega))) ?_); conv => whnf)
      | (refine Exists.intro _ (And.intro (lHeldHill (by first | omega | (simp; done) | (simp; omega)) (by first | omega | (simp; done) | (simp; omega)) (by first | omega | (simp; done) | (simp; omega))) ?_); conv => whnf))
  · refine Does.of_awp (X := cx 96) Try.func3 rfl (by kernel_rfl) rfl (by simp [cx]) [] rfl ?_
    conv => whnf
    repeat (first
      | (refine ⟨⟨by kernel_rfl, by kernel_rfl⟩, ?_⟩; conv => whnf)
      | (refine And.intro (by first | omega | (simp; done) | (simp; omega)) ?_; conv => whnf)
      | (refine Or.inl (And.intro (by omega) ?_); conv => whnf)
      | (refine br_intro (fun h => by exfalso; first | (simp at h; done) | (simp at h; omega) | omega) (fun _ => ?_); conv => whnf)
      | (refine br_intro (fun _ => ?_) (fun h => by exfalso; first | (simp at h; done) | (simp at h; omega) | omega); conv => whnf)
      | (refine Exists.intro _ (And.intro (lSzHill' (by first | omega | (simp; done) | (simp; omega)) (by first | omega | (simp; done) | (simp; omega)) (by first | omega | (simp; done) | (simp; omega))) ?_); conv => whnf))

end Go.Proofs.Ytngmlbeafdaolaa
