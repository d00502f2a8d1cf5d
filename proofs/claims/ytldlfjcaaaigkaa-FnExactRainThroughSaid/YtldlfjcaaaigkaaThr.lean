/- What each function of this seat does (Thr). Printed from templates of this seat's own. -/
import Derived.Test.YtldlfjcaaaigkaaOrd
namespace Go.Proofs.Ytldlfjcaaaigkaa
open Go.Ax Go.Bx
set_option maxRecDepth 8000
set_option linter.unusedSimpArgs false
set_option linter.unusedVariables false
noncomputable def thF (a v : Nat) : Nat := fop .add .f32 a v
noncomputable def thT (ds : List Int) (rs : List Nat) (c : Nat) : Nat := vT ds 0 id thF id rs c
noncomputable def thL (ds : List Int) (rs : List Nat) : List Nat := tabN (thT ds rs) ds.length
noncomputable def thNn (ds : List Int) (rs : List Nat) (n : Nat) : List Nat := fiN ds 0 id thF id rs n
noncomputable def thIi (ds : List Int) (rs : List Nat) (n i : Nat) : List Nat := fiI ds 0 id thF id (thNn ds rs n) n i
noncomputable def thP (ds : List Int) (l : List Nat) (i k : Nat) : Nat := chF ds thF (l.getD i 0) (fun k => l.getD k 0) i k
@[simp] theorem thNn_len (ds : List Int) (rs : List Nat) (n : Nat) : (thNn ds rs n).length = rs.length := by rw [thNn, fiN_len]
@[simp] theorem thIi_len (ds : List Int) (rs : List Nat) (n i : Nat) : (thIi ds rs n i).length = rs.length := by rw [thIi, fiI_len, thNn_len]
theorem thIi_yes {ds : List Int} {rs : List Nat} {n i : Nat} (h : lat ds i = n) : thIi ds rs n (i + 1) = (thIi ds rs n i).set i (thP ds (thIi ds rs n i) i ds.length) := fiI_yes h
theorem thIi_no {ds : List Int} {rs : List Nat} {n i : Nat} (h : lat ds i ≠ n) : thIi ds rs n (i + 1) = thIi ds rs n i := fiI_no h
theorem thNn_all {W H : Int} {ds : List Int} {rs : List Nat} (hW : Wys W H ds) (hl : rs.length = ds.length) : thNn ds rs ds.length = thL ds rs := fiN_all hW hl
theorem thT_step {W H : Int} {ds : List Int} {rs : List Nat} (hW : Wys W H ds) {c : Nat} (hc : c < ds.length) : thT ds rs c = chF ds thF (rs.getD c 0) (thT ds rs) c ds.length := vT_eq hW hc
/-- The list while a cell is summed up in its place. -/
noncomputable def thM (ds : List Int) (l : List Nat) (i k : Nat) : List Nat := l.set i (thP ds l i k)
theorem thM_zero {ds : List Int} {l : List Nat} {i : Nat} : thM ds l i 0 = l := by
  show l.set i (l.getD i 0) = l
  apply List.ext_getElem
  · simp
  · intro k h1 h2
    rw [List.getElem_set]
    split
    · rename_i e; subst e; rw [List.getD_eq_getElem?_getD, List.getElem?_eq_getElem h2]; rfl
    · rfl
theorem thM_no {ds : List Int} {l : List Nat} {i k : Nat} (h : ds.getD k 0 ≠ i) : thM ds l i (k + 1) = thM ds l i k := by
  unfold thM thP; rw [chF_no _ _ h]
theorem thM_self {ds : List Int} {l : List Nat} {i k : Nat} (hi : i < l.length) : (thM ds l i k).getD i 0 = thP ds l i k := by
  unfold thM; rw [getD_setG _ _ _ _ hi, if_pos rfl]
theorem thM_other {ds : List Int} {l : List Nat} {i k j : Nat} (hi : i < l.length) (h : j ≠ i) : (thM ds l i k).getD j 0 = l.getD j 0 := by
  unfold thM; rw [getD_setG _ _ _ _ hi, if_neg h]
theorem thM_yes {ds : List Int} {l : List Nat} {i k : Nat} (hi : i < l.length) (hk : k ≠ i) (h : ds.getD k 0 = i) : (thM ds l i k).set i (fop .add .f32 ((thM ds l i k).getD i 0) ((thM ds l i k).getD k 0)) = thM ds l i (k + 1) := by
  rw [thM_self hi, thM_other hi hk]
  unfold thM
  rw [List.set_set]
  congr 1
  unfold thP; rw [chF_yes _ _ h]; rfl
@[simp] theorem thM_len (ds : List Int) (l : List Nat) (i k : Nat) : (thM ds l i k).length = l.length := by simp [thM]
noncomputable def thC (W H : Int) (xs : List Nat) (ds : List Int) (rs : List Nat) : Bool := waysB W H xs ds && decide (rs.length = ds.length) && finL rs
noncomputable def thB (W H : Int) (xs : List Nat) (ds : List Int) (rs : List Nat) : Bool := thC W H xs ds rs && finL (thL ds rs)
noncomputable def thO (W H : Int) (xs : List Nat) (ds : List Int) (rs : List Nat) : List Nat := bif thB W H xs ds rs then thL ds rs else []
theorem thO_len (W H : Int) (xs : List Nat) (ds : List Int) (rs : List Nat) (h : ds.length ≤ 1048576) : (thO W H xs ds rs).length ≤ 1048576 := by
  unfold thO
  cases thB W H xs ds rs
  · exact Nat.zero_le _
  · rw [cond_true, thL, tabN_len]; exact h

theorem sList {xs : List Nat} {t : AV} (hn : xs.length ≤ 1048576) (h : finL xs = true) : Does Try.prog 50 [.sli .f32 xs t] (.tup [.sli .f32 xs t, .bool true]) := by
  refine Does.of_awp (X := cx 8) Try.func50 rfl (by kernel_rfl) rfl (by simp [cx]) [] rfl ?_
  conv => whnf
  repeat (first
    | (refine ⟨⟨by kernel_rfl, by kernel_rfl⟩, ?_⟩; conv => whnf)
    | (refine And.intro (by first | omega | (simp; done) | (simp; omega)) ?_; conv => whnf)
    | (refine Or.inl (And.intro (by omega) ?_); conv => whnf)
    | (refine Exists.intro _ (And.intro (sFinL (by first | omega | (simp; done) | (simp; omega))) ?_); conv => whnf))
  rw [h]
  conv => whnf
  repeat (first
    | (refine ⟨⟨by kernel_rfl, by kernel_rfl⟩, ?_⟩; conv => whnf)
    | (refine And.intro (by first | omega | (simp; done) | (simp; omega)) ?_; conv => whnf)
    | (refine Or.inl (And.intro (by omega) ?_); conv => whnf))
  all_goals (try (conv => whnf))
  all_goals (repeat' (first | exact True.intro | (refine And.intro ?_ ?_ <;> (conv => whnf))))
  all_goals (first | rfl | (simp_all []; done) | (simp only [cond_true, cond_false, Bool.and_true, Bool.true_and, Bool.and_false, Bool.false_and]; rfl) | (simp_all []; omega))
theorem sList' {xs : List Nat} {t : AV} (hn : xs.length ≤ 1048576) (h : finL xs = false) : Does Try.prog 50 [.sli .f32 xs t] (.tup [.emp .f32, .bool false]) := by
  refine Does.of_awp (X := cx 8) Try.func50 rfl (by kernel_rfl) rfl (by simp [cx]) [] rfl ?_
  conv => whnf
  repeat (first
    | (refine ⟨⟨by kernel_rfl, by kernel_rfl⟩, ?_⟩; conv => whnf)
    | (refine And.intro (by first | omega | (simp; done) | (simp; omega)) ?_; conv => whnf)
    | (refine Or.inl (And.intro (by omega) ?_); conv => whnf)
    | (refine Exists.intro _ (And.intro (sFinL (by first | omega | (simp; done) | (simp; omega))) ?_); conv => whnf))
  rw [h]
  conv => whnf
  repeat (first
    | (refine ⟨⟨by kernel_rfl, by kernel_rfl⟩, ?_⟩; conv => whnf)
    | (refine And.intro (by first | omega | (simp; done) | (simp; omega)) ?_; conv => whnf)
    | (refine Or.inl (And.intro (by omega) ?_); conv => whnf))
  all_goals (try (conv => whnf))
  all_goals (repeat' (first | exact True.intro | (refine And.intro ?_ ?_ <;> (conv => whnf))))
  all_goals (first | rfl | (simp_all []; done) | (simp only [cond_true, cond_false, Bool.and_true, Bool.true_and, Bool.and_false, Bool.false_and]; rfl) | (simp_all []; omega))

theorem sThrough {W H : Int} {xs rs : List Nat} {ds : List Int} {t t2 t3 : AV} (hn : xs.length ≤ 1048576) (hn' : ds.length ≤ 1048576) (hn3 : rs.length ≤ 1048576) : Does Try.prog 21 [.agg [.int .i64 W, .int .i64 H, .sli .f32 xs t], .sli (.int .i64) ds t2, .sli .f32 rs t3] (.tup [.own 0 .f32 (thO W H xs ds rs), .bool (thB W H xs ds rs)]) := by
  refine Does.of_awp (X := cx 79) Try.func21 rfl (by kernel_rfl) rfl (by simp [cx]) [128] rfl ?_
  conv => whnf
  repeat (first
    | (refine ⟨⟨by kernel_rfl, by kernel_rfl⟩, ?_⟩; conv => whnf)
    | (refine And.intro (by first | omega | (simp; done) | (simp; omega)) ?_; conv => whnf)
    | (refine Or.inl (And.intro (by omega) ?_); conv => whnf)
    | (refine Exists.intro _ (And.intro (sWaysB (by first | omega | (simp; done) | (simp; omega)) (by first | omega | (simp; done) | (simp; omega))) ?_); conv => whnf))
  (refine br_intro (fun g1 => ?_) (fun g1 => ?_) <;> (conv => whnf))
  · have g1 : waysB W H xs ds = false := by simpa using g1
    have eB : thB W H xs ds rs = false := by rw [thB, thC, g1]; rfl
    repeat (first
      | (refine ⟨⟨by kernel_rfl, by kernel_rfl⟩, ?_⟩; conv => whnf)
      | (refine And.intro (by first | omega | (simp; done) | (simp; omega)) ?_; conv => whnf)
      | (refine Or.inl (And.intro (by omega) ?_); conv => whnf)
      | (refine br_intro (fun h => by exfalso; first | (simp at h; done) | (simp at h; omega) | omega) (fun _ => ?_); conv => whnf)
      | (refine br_intro (fun _ => ?_) (fun h => by exfalso; first | (simp at h; done) | (simp at h; omega) | omega); conv => whnf))
    all_goals (try (conv => whnf))
    all_goals (repeat' (first | exact True.intro | (refine And.intro ?_ ?_ <;> (conv => whnf))))
    all_goals (first | rfl | (simp_all [thO, eB]; done) | (simp only [thO, eB, cond_true, cond_false, Bool.and_true, Bool.true_and, Bool.and_false, Bool.false_and]; rfl) | (simp_all [thO, eB]; omega))
  have g1 : waysB W H xs ds = true := by simpa using g1
  repeat (first
    | (refine ⟨⟨by kernel_rfl, by kernel_rfl⟩, ?_⟩; conv => whnf)
    | (refine And.intro (by first | omega | (simp; done) | (simp; omega)) ?_; conv => whnf)
    | (refine Or.inl (And.intro (by omega) ?_); conv => whnf))
  (refine br_intro (fun g2 => ?_) (fun g2 => ?_) <;> (conv => whnf))
  · have g2 : ¬ rs.length = ds.length := by simp at g2; omega
    have eB : thB W H xs ds rs = false := by rw [thB, thC, decide_eq_false g2, Bool.and_false]; rfl
    repeat (first
      | (refine ⟨⟨by kernel_rfl, by kernel_rfl⟩, ?_⟩; conv => whnf)
      | (refine And.intro (by first | omega | (simp; done) | (simp; omega)) ?_; conv => whnf)
      | (refine Or.inl (And.intro (by omega) ?_); conv => whnf)
      | (refine br_intro (fun h => by exfalso; first | (simp at h; done) | (simp at h; omega) | omega) (fun _ => ?_); conv => whnf)
      | (refine br_intro (fun _ => ?_) (fun h => by exfalso; first | (simp at h; done) | (simp at h; omega) | omega); conv => whnf))
    all_goals (try (conv => whnf))
    all_goals (repeat' (first | exact True.intro | (refine And.intro ?_ ?_ <;> (conv => whnf))))
    all_goals (first | rfl | (simp_all [thO, eB]; done) | (simp only [thO, eB, cond_true, cond_false, Bool.and_true, Bool.true_and, Bool.and_false, Bool.false_and]; rfl) | (simp_all [thO, eB]; omega))
  have g2 : rs.length = ds.length := by simp at g2; omega
  repeat (first
    | (refine ⟨⟨by kernel_rfl, by kernel_rfl⟩, ?_⟩; conv => whnf)
    | (refine And.intro (by first | omega | (simp; done) | (simp; omega)) ?_; conv => whnf)
    | (refine Or.inl (And.intro (by omega) ?_); conv => whnf)
    | (refine Exists.intro _ (And.intro (sFinL (by first | omega | (simp; done) | (simp; omega))) ?_); conv => whnf))
  (refine br_intro (fun g3 => ?_) (fun g3 => ?_) <;> (conv => whnf))
  · have g3 : finL rs = false := by simpa using g3
    have eB : thB W H xs ds rs = false := by rw [thB, thC, g3, Bool.and_false]; rfl
    repeat (first
      | (refine ⟨⟨by kernel_rfl, by kernel_rfl⟩, ?_⟩; conv => whnf)
      | (refine And.intro (by first | omega | (simp; done) | (simp; omega)) ?_; conv => whnf)
      | (refine Or.inl (And.intro (by omega) ?_); conv => whnf)
      | (refine br_intro (fun h => by exfalso; first | (simp at h; done) | (simp at h; omega) | omega) (fun _ => ?_); conv => whnf)
      | (refine br_intro (fun _ => ?_) (fun h => by exfalso; first | (simp at h; done) | (simp at h; omega) | omega); conv => whnf))
    all_goals (try (conv => whnf))
    all_goals (repeat' (first | exact True.intro | (refine And.intro ?_ ?_ <;> (conv => whnf))))
    all_goals (first | rfl | (simp_all [thO, eB]; done) | (simp only [thO, eB, cond_true, cond_false, Bool.and_true, Bool.true_and, Bool.and_false, Bool.false_and]; rfl) | (simp_all [thO, eB]; omega))
  have g3 : finL rs = true := by simpa using g3
  have hW := waysB_Wys g1
  have hl := hW.2.1
  have hm := hW.2.2.1
  have eC : thC W H xs ds rs = true := by rw [thC, g1, g3, decide_eq_true g2]; rfl
  clear g1 g3
  repeat (first
    | (refine ⟨⟨by kernel_rfl, by kernel_rfl⟩, ?_⟩; conv => whnf)
    | (refine And.intro (by first | omega | (simp; done) | (simp; omega)) ?_; conv => whnf)
    | (refine Or.inl (And.intro (by omega) ?_); conv => whnf)
    | (refine Exists.intro _ (And.intro (sLate hW) ?_); conv => whnf))
  refine ⟨Nat, fun n => n ≤ ds.length, fun n => [(1, .sli (.int .i64) ds t2), (8, .osl 116), (9, .osl 128), (10, .int .i64 n)], fun n => [(116, .tab (.int .i64) (ltS ds ds.length)), (128, .tab .f32 (thNn ds rs n))], fun n => ds.length - n, ⟨0, id, Nat.zero_le _, rfl, ⟨rfl, rfl, rfl, rfl, trivial⟩, ⟨rfl, rfl, trivial⟩⟩, fun n hn3 => ?_⟩
  dsimp only at hn3
  conv => whnf
  (refine br_intro (fun h => ?_) (fun h => ?_) <;> (conv => whnf))
  · have h : n < ds.length := by simp at h; omega
    repeat (first
      | (refine ⟨⟨by kernel_rfl, by kernel_rfl⟩, ?_⟩; conv => whnf)
      | (refine And.intro (by first | omega | (simp; done) | (simp; omega)) ?_; conv => whnf)
      | (refine Or.inl (And.intro (by omega) ?_); conv => whnf))
    refine ⟨Nat, fun i => i ≤ ds.length, fun i => [(1, .sli (.int .i64) ds t2), (8, .osl 116), (9, .osl 128), (10, .int .i64 n), (11, .int .i64 i)], fun i => [(116, .tab (.int .i64) (ltS ds ds.length)), (128, .tab .f32 (thIi ds rs n i))], fun i => ds.length - i, ⟨0, id, Nat.zero_le _, rfl, ⟨rfl, rfl, rfl, rfl, rfl, trivial⟩, ⟨rfl, rfl, trivial⟩⟩, fun i hi => ?_⟩
    dsimp only at hi
    conv => whnf
    (refine br_intro (fun h2 => ?_) (fun h2 => ?_) <;> (conv => whnf))
    · have h2 : i < ds.length := by simp at h2; omega
      have hLt : (ltS ds ds.length).length = ds.length := ltS_len _ _
      have eL : (ltS ds ds.length).getD (i : Int).toNat (RK.int .i64).z = lat ds i := lat_cast hW h2
      repeat (first
        | (refine ⟨⟨by kernel_rfl, by kernel_rfl⟩, ?_⟩; conv => whnf)
        | (refine And.intro (by first | omega | (simp; done) | (simp; omega)) ?_; conv => whnf)
        | (refine Or.inl (And.intro (by omega) ?_); conv => whnf))
      (refine br_intro (fun h3 => ?_) (fun h3 => ?_) <;> (conv => whnf))
      · have h3 : lat ds i ≠ n := by
          have h3 : ((ltS ds ds.length).getD (i : Int).toNat (RK.int .i64).z != (n : Int)) = true := h3
          rw [eL] at h3; simp at h3; omega
        repeat (first
          | (refine ⟨⟨by kernel_rfl, by kernel_rfl⟩, ?_⟩; conv => whnf)
          | (refine And.intro (by first | omega | (simp; done) | (simp; omega)) ?_; conv => whnf)
          | (refine Or.inl (And.intro (by omega) ?_); conv => whnf))
        refine ⟨i + 1, id, ⟨h2, by dsimp only; omega⟩, rfl, ⟨rfl, rfl, rfl, rfl, rfl, trivial⟩, ⟨rfl, congrArg (fun l => KS.live (Blk.tab .f32 l)) (thIi_no h3).symm, trivial⟩⟩
      · have h3 : lat ds i = n := by
          have h3 : ((ltS ds ds.length).getD (i : Int).toNat (RK.int .i64).z != (n : Int)) = false := h3
          rw [eL] at h3; simp at h3; omega
        have hI := thIi_len ds rs n i
        have hiI : i < (thIi ds rs n i).length := by rw [hI]; omega
        repeat (first
          | (refine ⟨⟨by kernel_rfl, by kernel_rfl⟩, ?_⟩; conv => whnf)
          | (refine And.intro (by first | omega | (simp; done) | (simp; omega)) ?_; conv => whnf)
          | (refine Or.inl (And.intro (by omega) ?_); conv => whnf))
        refine ⟨Nat, fun k => k ≤ ds.length, fun k => [(1, .sli (.int .i64) ds t2), (8, .osl 116), (9, .osl 128), (10, .int .i64 n), (11, .int .i64 i), (12, .int .i64 k)], fun k => [(116, .tab (.int .i64) (ltS ds ds.length)), (128, .tab .f32 (thM ds (thIi ds rs n i) i k))], fun k => ds.length - k, ⟨0, id, Nat.zero_le _, rfl, ⟨rfl, rfl, rfl, rfl, rfl, rfl, trivial⟩, ⟨rfl, congrArg (fun l => KS.live (Blk.tab .f32 l)) thM_zero.symm, trivial⟩⟩, fun k hk => ?_⟩
        dsimp only at hk
        have hM := thM_len ds (thIi ds rs n i) i k
        conv => whnf
        (refine br_intro (fun h4 => ?_) (fun h4 => ?_) <;> (conv => whnf))
        · have h4 : k < ds.length := by simp at h4; omega
          repeat (first
            | (refine ⟨⟨by kernel_rfl, by kernel_rfl⟩, ?_⟩; conv => whnf)
            | (refine And.intro (by first | omega | (simp; done) | (simp; omega)) ?_; conv => whnf)
            | (refine Or.inl (And.intro (by omega) ?_); conv => whnf))
          (refine br_intro (fun h5 => ?_) (fun h5 => ?_) <;> (conv => whnf))
          · have h5 : ds.getD k 0 = i := by
              have h5 : (ds.getD k 0 == (i : Int)) = true := h5
              simpa using h5
            have hne : k ≠ i := fun e => by
              have := lat_up hW h4 h2 h5
              rw [e] at this; omega
            have e := thM_yes hiI hne h5
            repeat (first
              | (refine ⟨⟨by kernel_rfl, by kernel_rfl⟩, ?_⟩; conv => whnf)
              | (refine And.intro (by first | omega | (simp; done) | (simp; omega)) ?_; conv => whnf)
              | (refine Or.inl (And.intro (by omega) ?_); conv => whnf))
            refine ⟨k + 1, id, ⟨h4, by dsimp only; omega⟩, rfl, ⟨rfl, rfl, rfl, rfl, rfl, rfl, trivial⟩, ⟨rfl, congrArg (fun l => KS.live (Blk.tab .f32 l)) e, trivial⟩⟩
          · have h5 : ds.getD k 0 ≠ i := by
              have h5 : (ds.getD k 0 == (i : Int)) = false := h5
              simpa using h5
            have e := thM_no (l := thIi ds rs n i) h5
            repeat (first
              | (refine ⟨⟨by kernel_rfl, by kernel_rfl⟩, ?_⟩; conv => whnf)
              | (refine And.intro (by first | omega | (simp; done) | (simp; omega)) ?_; conv => whnf)
              | (refine Or.inl (And.intro (by omega) ?_); conv => whnf))
            refine ⟨k + 1, id, ⟨h4, by dsimp only; omega⟩, rfl, ⟨rfl, rfl, rfl, rfl, rfl, rfl, trivial⟩, ⟨rfl, congrArg (fun l => KS.live (Blk.tab .f32 l)) e.symm, trivial⟩⟩
        · have h4 : k = ds.length := by simp at h4; omega
          subst h4
          have eZ : thM ds (thIi ds rs n i) i ds.length = thIi ds rs n (i + 1) := (thIi_yes h3).symm
          repeat (first
            | (refine ⟨⟨by kernel_rfl, by kernel_rfl⟩, ?_⟩; conv => whnf)
            | (refine And.intro (by first | omega | (simp; done) | (simp; omega)) ?_; conv => whnf)
            | (refine Or.inl (And.intro (by omega) ?_); conv => whnf))
          refine ⟨i + 1, id, ⟨h2, by dsimp only; omega⟩, rfl, ⟨rfl, rfl, rfl, rfl, rfl, trivial⟩, ⟨rfl, congrArg (fun l => KS.live (Blk.tab .f32 l)) eZ, trivial⟩⟩
    · have h2 : i = ds.length := by simp at h2; omega
      subst h2
      repeat (first
        | (refine ⟨⟨by kernel_rfl, by kernel_rfl⟩, ?_⟩; conv => whnf)
        | (refine And.intro (by first | omega | (simp; done) | (simp; omega)) ?_; conv => whnf)
        | (refine Or.inl (And.intro (by omega) ?_); conv => whnf))
      refine ⟨n + 1, id, ⟨h, by dsimp only; omega⟩, rfl, ⟨rfl, rfl, rfl, rfl, trivial⟩, ⟨rfl, rfl, trivial⟩⟩
  · have h : n = ds.length := by simp at h; omega
    subst h
    have eN := thNn_all hW g2
    have hll : (thNn ds rs ds.length).length ≤ 1048576 := by rw [thNn_len]; omega
    cases hF : finL (thNn ds rs ds.length) with
    | true =>
      have eB : thB W H xs ds rs = true := by rw [thB, eC, ← eN, hF]; rfl
      have eO : thO W H xs ds rs = thNn ds rs ds.length := by rw [thO, eB, eN]; rfl
      rw [eB, eO]
      repeat (first
        | (refine ⟨⟨by kernel_rfl, by kernel_rfl⟩, ?_⟩; conv => whnf)
        | (refine And.intro (by first | omega | (simp; done) | (simp; omega)) ?_; conv => whnf)
        | (refine Or.inl (And.intro (by omega) ?_); conv => whnf)
        | (refine Exists.intro _ (And.intro (sList hll hF) ?_); conv => whnf))
      all_goals (try (conv => whnf))
      all_goals (repeat' (first | exact True.intro | (refine And.intro ?_ ?_ <;> (conv => whnf))))
      all_goals (first | rfl | (simp_all []; done) | (simp only [cond_true, cond_false, Bool.and_true, Bool.true_and, Bool.and_false, Bool.false_and]; rfl) | (simp_all []; omega))
    | false =>
      have eB : thB W H xs ds rs = false := by rw [thB, eC, ← eN, hF]; rfl
      have eO : thO W H xs ds rs = [] := by rw [thO, eB]; rfl
      rw [eB, eO]
      repeat (first
        | (refine ⟨⟨by kernel_rfl, by kernel_rfl⟩, ?_⟩; conv => whnf)
        | (refine And.intro (by first | omega | (simp; done) | (simp; omega)) ?_; conv => whnf)
        | (refine Or.inl (And.intro (by omega) ?_); conv => whnf)
        | (refine Exists.intro _ (And.intro (sList' hll hF) ?_); conv => whnf))
      all_goals (try (conv => whnf))
      all_goals (repeat' (first | exact True.intro | (refine And.intro ?_ ?_ <;> (conv => whnf))))
      all_goals (first | rfl | (simp_all []; done) | (simp only [cond_true, cond_false, Bool.and_true, Bool.true_and, Bool.and_false, Bool.false_and]; rfl) | (simp_all []; omega))

theorem iThrough1 {W H : Int} {ds : List Int} {rs : List Nat} (hW : Wys W H ds) (hl2 : rs.length = ds.length) : ∀ (m c : Nat) (t t2 : AV), c < ds.length → lat ds c < m → Does Try.prog 52 [.sli (.int .i64) ds t, .sli .f32 rs t2, .int .i64 c] (.flt .f32 (thT ds rs c)) := by
  have hl := hW.2.1
  have hm := hW.2.2.1
  intro m
  induction m with
  | zero => intro c t t2 hc hlt; omega
  | succ m ih =>
    intro c t t2 hc hlt
    rw [thT_step hW hc]
    refine Does.of_awp (X := cx 32) Try.func52 rfl (by kernel_rfl) rfl (by simp [cx]) [] rfl ?_
    conv => whnf
    repeat (first
      | (refine ⟨⟨by kernel_rfl, by kernel_rfl⟩, ?_⟩; conv => whnf)
      | (refine And.intro (by first | omega | (simp; done) | (simp; omega)) ?_; conv => whnf)
      | (refine Or.inl (And.intro (by omega) ?_); conv => whnf))
    refine ⟨Nat, fun k => k ≤ ds.length, fun k => [(0, .sli (.int .i64) ds t), (1, .sli .f32 rs t2), (2, .int .i64 c), (7, .flt .f32 (chF ds thF (rs.getD c 0) (thT ds rs) c k)), (14, .sli (.int .i64) ds t), (15, .int .i64 ds.length), (16, .int .i64 k)], fun _ => [], fun k => ds.length - k, ⟨0, id, Nat.zero_le _, rfl, ⟨rfl, rfl, rfl, rfl, rfl, rfl, rfl, trivial⟩, trivial⟩, fun k hk => ?_⟩
    dsimp only at hk
    conv => whnf
    (refine br_intro (fun h4 => ?_) (fun h4 => ?_) <;> (conv => whnf))
    · have h4 : k < ds.length := by simp at h4; omega
      repeat (first
        | (refine ⟨⟨by kernel_rfl, by kernel_rfl⟩, ?_⟩; conv => whnf)
        | (refine And.intro (by first | omega | (simp; done) | (simp; omega)) ?_; conv => whnf)
        | (refine Or.inl (And.intro (by omega) ?_); conv => whnf))
      (refine br_intro (fun h5 => ?_) (fun h5 => ?_) <;> (conv => whnf))
      · have h5 : ds.getD k 0 = c := by
          have h5 : (ds.getD k 0 == (c : Int)) = true := h5
          simpa using h5
        have e := chF_yes (b := rs.getD c 0) (v := thT ds rs) ds thF h5
        have hu := lat_up hW h4 hc h5
        have eR : ∀ t t2, Does Try.prog 52 [.sli (.int .i64) ds t, .sli .f32 rs t2, .int .i64 k] (.flt .f32 (thT ds rs k)) := fun t t2 => ih k t t2 h4 (by omega)
        repeat (first
          | (refine ⟨⟨by kernel_rfl, by kernel_rfl⟩, ?_⟩; conv => whnf)
          | (refine And.intro (by first | omega | (simp; done) | (simp; omega)) ?_; conv => whnf)
          | (refine Or.inl (And.intro (by omega) ?_); conv => whnf)
          | (refine Exists.intro _ (And.intro (eR _ _) ?_); conv => whnf))
        refine ⟨k + 1, id, ⟨h4, by dsimp only; omega⟩, rfl, ⟨rfl, rfl, rfl, congrArg (AV.flt .f32) e.symm, rfl, rfl, rfl, trivial⟩, trivial⟩
      · have h5 : ds.getD k 0 ≠ c := by
          have h5 : (ds.getD k 0 == (c : Int)) = false := h5
          simpa using h5
        have e := chF_no (b := rs.getD c 0) (v := thT ds rs) ds thF h5
        repeat (first
          | (refine ⟨⟨by kernel_rfl, by kernel_rfl⟩, ?_⟩; conv => whnf)
          | (refine And.intro (by first | omega | (simp; done) | (simp; omega)) ?_; conv => whnf)
          | (refine Or.inl (And.intro (by omega) ?_); conv => whnf))
        refine ⟨k + 1, id, ⟨h4, by dsimp only; omega⟩, rfl, ⟨rfl, rfl, rfl, congrArg (AV.flt .f32) e.symm, rfl, rfl, rfl, trivial⟩, trivial⟩
    · have h4 : k = ds.length := by simp at h4; omega
      subst h4
      repeat (first
        | (refine ⟨⟨by kernel_rfl, by kernel_rfl⟩, ?_⟩; conv => whnf)
        | (refine And.intro (by first | omega | (simp; done) | (simp; omega)) ?_; conv => whnf)
        | (refine Or.inl (And.intro (by omega) ?_); conv => whnf))
      all_goals (try (conv => whnf))
      all_goals (repeat' (first | exact True.intro | (refine And.intro ?_ ?_ <;> (conv => whnf))))
      all_goals (first | rfl | (simp_all []; done) | (simp only [cond_true, cond_false, Bool.and_true, Bool.true_and, Bool.and_false, Bool.false_and]; rfl) | (simp_all []; omega))

theorem iThrough {W H : Int} {xs rs : List Nat} {ds : List Int} {t t2 t3 : AV} (hn : xs.length ≤ 1048576) (hn' : ds.length ≤ 1048576) (hn3 : rs.length ≤ 1048576) : Does Try.prog 23 [.agg [.int .i64 W, .int .i64 H, .sli .f32 xs t], .sli (.int .i64) ds t2, .sli .f32 rs t3] (.tup [.own 0 .f32 (thO W H xs ds rs), .bool (thB W H xs ds rs)]) := by
  refine Does.of_awp (X := cx 44) Try.func23 rfl (by kernel_rfl) rfl (by simp [cx]) [104] rfl ?_
  conv => whnf
  repeat (first
    | (refine ⟨⟨by kernel_rfl, by kernel_rfl⟩, ?_⟩; conv => whnf)
    | (refine And.intro (by first | omega | (simp; done) | (simp; omega)) ?_; conv => whnf)
    | (refine Or.inl (And.intro (by omega) ?_); conv => whnf)
    | (refine Exists.intro _ (And.intro (iWaysB (by first | omega | (simp; done) | (simp; omega)) (by first | omega | (simp; done) | (simp; omega))) ?_); conv => whnf))
  (refine br_intro (fun g1 => ?_) (fun g1 => ?_) <;> (conv => whnf))
  · have g1 : waysB W H xs ds = false := by simpa using g1
    have eB : thB W H xs ds rs = false := by rw [thB, thC, g1]; rfl
    repeat (first
      | (refine ⟨⟨by kernel_rfl, by kernel_rfl⟩, ?_⟩; conv => whnf)
      | (refine And.intro (by first | omega | (simp; done) | (simp; omega)) ?_; conv => whnf)
      | (refine Or.inl (And.intro (by omega) ?_); conv => whnf)
      | (refine br_intro (fun h => by exfalso; first | (simp at h; done) | (simp at h; omega) | omega) (fun _ => ?_); conv => whnf)
      | (refine br_intro (fun _ => ?_) (fun h => by exfalso; first | (simp at h; done) | (simp at h; omega) | omega); conv => whnf))
    all_goals (try (conv => whnf))
    all_goals (repeat' (first | exact True.intro | (refine And.intro ?_ ?_ <;> (conv => whnf))))
    all_goals (first | rfl | (simp_all [thO, eB]; done) | (simp only [thO, eB, cond_true, cond_false, Bool.and_true, Bool.true_and, Bool.and_false, Bool.false_and]; rfl) | (simp_all [thO, eB]; omega))
  have g1 : waysB W H xs ds = true := by simpa using g1
  repeat (first
    | (refine ⟨⟨by kernel_rfl, by kernel_rfl⟩, ?_⟩; conv => whnf)
    | (refine And.intro (by first | omega | (simp; done) | (simp; omega)) ?_; conv => whnf)
    | (refine Or.inl (And.intro (by omega) ?_); conv => whnf))
  (refine br_intro (fun g2 => ?_) (fun g2 => ?_) <;> (conv => whnf))
  · have g2 : ¬ rs.length = ds.length := by simp at g2; omega
    have eB : thB W H xs ds rs = false := by rw [thB, thC, decide_eq_false g2, Bool.and_false]; rfl
    repeat (first
      | (refine ⟨⟨by kernel_rfl, by kernel_rfl⟩, ?_⟩; conv => whnf)
      | (refine And.intro (by first | omega | (simp; done) | (simp; omega)) ?_; conv => whnf)
      | (refine Or.inl (And.intro (by omega) ?_); conv => whnf)
      | (refine br_intro (fun h => by exfalso; first | (simp at h; done) | (simp at h; omega) | omega) (fun _ => ?_); conv => whnf)
      | (refine br_intro (fun _ => ?_) (fun h => by exfalso; first | (simp at h; done) | (simp at h; omega) | omega); conv => whnf))
    all_goals (try (conv => whnf))
    all_goals (repeat' (first | exact True.intro | (refine And.intro ?_ ?_ <;> (conv => whnf))))
    all_goals (first | rfl | (simp_all [thO, eB]; done) | (simp only [thO, eB, cond_true, cond_false, Bool.and_true, Bool.true_and, Bool.and_false, Bool.false_and]; rfl) | (simp_all [thO, eB]; omega))
  have g2 : rs.length = ds.length := by simp at g2; omega
  repeat (first
    | (refine ⟨⟨by kernel_rfl, by kernel_rfl⟩, ?_⟩; conv => whnf)
    | (refine And.intro (by first | omega | (simp; done) | (simp; omega)) ?_; conv => whnf)
    | (refine Or.inl (And.intro (by omega) ?_); conv => whnf)
    | (refine Exists.intro _ (And.intro (iFinL (by first | omega | (simp; done) | (simp; omega))) ?_); conv => whnf))
  (refine br_intro (fun g3 => ?_) (fun g3 => ?_) <;> (conv => whnf))
  · have g3 : finL rs = false := by simpa using g3
    have eB : thB W H xs ds rs = false := by rw [thB, thC, g3, Bool.and_false]; rfl
    repeat (first
      | (refine ⟨⟨by kernel_rfl, by kernel_rfl⟩, ?_⟩; conv => whnf)
      | (refine And.intro (by first | omega | (simp; done) | (simp; omega)) ?_; conv => whnf)
      | (refine Or.inl (And.intro (by omega) ?_); conv => whnf)
      | (refine br_intro (fun h => by exfalso; first | (simp at h; done) | (simp at h; omega) | omega) (fun _ => ?_); conv => whnf)
      | (refine br_intro (fun _ => ?_) (fun h => by exfalso; first | (simp at h; done) | (simp at h; omega) | omega); conv => whnf))
    all_goals (try (conv => whnf))
    all_goals (repeat' (first | exact True.intro | (refine And.intro ?_ ?_ <;> (conv => whnf))))
    all_goals (first | rfl | (simp_all [thO, eB]; done) | (simp only [thO, eB, cond_true, cond_false, Bool.and_true, Bool.true_and, Bool.and_false, Bool.false_and]; rfl) | (simp_all [thO, eB]; omega))
  have g3 : finL rs = true := by simpa using g3
  have hW := waysB_Wys g1
  have hl := hW.2.1
  have hm := hW.2.2.1
  have eC : thC W H xs ds rs = true := by rw [thC, g1, g3, decide_eq_true g2]; rfl
  clear g1 g3
  repeat (first
    | (refine ⟨⟨by kernel_rfl, by kernel_rfl⟩, ?_⟩; conv => whnf)
    | (refine And.intro (by first | omega | (simp; done) | (simp; omega)) ?_; conv => whnf)
    | (refine Or.inl (And.intro (by omega) ?_); conv => whnf))
  refine ⟨Nat, fun i => i ≤ ds.length, fun i => [(1, .sli (.int .i64) ds t2), (2, .sli .f32 rs t3), (8, .osl 104), (28, .int .i64 ds.length), (29, .int .i64 i)], fun i => [(104, .tab .f32 (tabN (thT ds rs) i))], fun i => ds.length - i, ⟨0, id, Nat.zero_le _, rfl, ⟨rfl, rfl, rfl, rfl, rfl, trivial⟩, ⟨rfl, trivial⟩⟩, fun i hi => ?_⟩
  dsimp only at hi
  conv => whnf
  (refine br_intro (fun h => ?_) (fun h => ?_) <;> (conv => whnf))
  · have h : i < ds.length := by simp at h; omega
    have eR : ∀ t t2, Does Try.prog 52 [.sli (.int .i64) ds t, .sli .f32 rs t2, .int .i64 i] (.flt .f32 (thT ds rs i)) := fun t t2 => iThrough1 hW g2 _ i t t2 h (Nat.lt_succ_self _)
    repeat (first
      | (refine ⟨⟨by kernel_rfl, by kernel_rfl⟩, ?_⟩; conv => whnf)
      | (refine And.intro (by first | omega | (simp; done) | (simp; omega)) ?_; conv => whnf)
      | (refine Or.inl (And.intro (by omega) ?_); conv => whnf)
      | (refine Exists.intro _ (And.intro (eR _ _) ?_); conv => whnf))
    refine ⟨i + 1, ren [(104, 152)], ⟨h, by dsimp only; omega⟩, rfl, ⟨rfl, rfl, rfl, rfl, rfl, trivial⟩, ⟨rfl, trivial⟩⟩
  · have h : i = ds.length := by simp at h; omega
    subst h
    have eN : tabN (thT ds rs) ds.length = thL ds rs := rfl
    have hll : (tabN (thT ds rs) ds.length).length ≤ 1048576 := by rw [tabN_len]; omega
    repeat (first
      | (refine ⟨⟨by kernel_rfl, by kernel_rfl⟩, ?_⟩; conv => whnf)
      | (refine And.intro (by first | omega | (simp; done) | (simp; omega)) ?_; conv => whnf)
      | (refine Or.inl (And.intro (by omega) ?_); conv => whnf)
      | (refine Exists.intro _ (And.intro (iFinL (by first | omega | (simp; done) | (simp; omega))) ?_); conv => whnf))
    (refine br_intro (fun hF => ?_) (fun hF => ?_) <;> (conv => whnf))
    · have hF : finL (tabN (thT ds rs) ds.length) = false := by simpa using hF
      have eB : thB W H xs ds rs = false := by rw [thB, eC, ← eN, hF]; rfl
      have eO : thO W H xs ds rs = [] := by rw [thO, eB]; rfl
      rw [eB, eO]
      repeat (first
        | (refine ⟨⟨by kernel_rfl, by kernel_rfl⟩, ?_⟩; conv => whnf)
        | (refine And.intro (by first | omega | (simp; done) | (simp; omega)) ?_; conv => whnf)
        | (refine Or.inl (And.intro (by omega) ?_); conv => whnf))
      all_goals (try (conv => whnf))
      all_goals (repeat' (first | exact True.intro | (refine And.intro ?_ ?_ <;> (conv => whnf))))
      all_goals (first | rfl | (simp_all []; done) | (simp only [cond_true, cond_false, Bool.and_true, Bool.true_and, Bool.and_false, Bool.false_and]; rfl) | (simp_all []; omega))
    · have hF : finL (tabN (thT ds rs) ds.length) = true := by simpa using hF
      have eB : thB W H xs ds rs = true := by rw [thB, eC, ← eN, hF]; rfl
      have eO : thO W H xs ds rs = tabN (thT ds rs) ds.length := by rw [thO, eB, eN]; rfl
      rw [eB, eO]
      repeat (first
        | (refine ⟨⟨by kernel_rfl, by kernel_rfl⟩, ?_⟩; conv => whnf)
        | (refine And.intro (by first | omega | (simp; done) | (simp; omega)) ?_; conv => whnf)
        | (refine Or.inl (And.intro (by omega) ?_); conv => whnf))
      all_goals (try (conv => whnf))
      all_goals (repeat' (first | exact True.intro | (refine And.intro ?_ ?_ <;> (conv => whnf))))
      all_goals (first | rfl | (simp_all []; done) | (simp only [cond_true, cond_false, Bool.and_true, Bool.true_and, Bool.and_false, Bool.false_and]; rfl) | (simp_all []; omega))

theorem lawThrough (W H : Int) (xs : List Nat) (_ : (IntKind.i64.min ≤ W ∧ W ≤ IntKind.i64.max) ∧ IntKind.i64.min ≤ H ∧ H ≤ IntKind.i64.max) (hn : xs.length < 2 ^ 63) (_ : ∀ y ∈ xs, y < 2 ^ 32) (ds : List Int) (hn' : ds.length < 2 ^ 63) (_ : ∀ y ∈ ds, IntKind.i64.min ≤ y ∧ y ≤ IntKind.i64.max) (rs : List Nat) (hn3 : rs.length < 2 ^ 63) (_ : ∀ y ∈ rs, y < 2 ^ 32) : Does Try.prog 5 [.agg [.int .i64 W, .int .i64 H, .sli .f32 xs .undef], .sli (.int .i64) ds .undef, .sli .f32 rs .undef] (.bool true) := by
  refine Does.of_awp (X := cx 138) Try.func5 rfl (by kernel_rfl) rfl (by simp [cx]) [] rfl ?_
  conv => whnf
  repeat (first
    | (refine ⟨⟨by kernel_rfl, by kernel_rfl⟩, ?_⟩; conv => whnf)
    | (refine And.intro (by first | omega | (simp; done) | (simp; omega)) ?_; conv => whnf)
    | (refine Or.inl (And.intro (by omega) ?_); conv => whnf))
  (refine br_intro (fun h => ?_) (fun h => ?_) <;> (conv => whnf))
  have hc : ds.length ≤ 1048576 := by simp at h; omega
  (refine br_intro (fun hb => ?_) (fun hb => ?_) <;> (conv => whnf))
  have hc3 : rs.length ≤ 1048576 := by simp at hb; omega
  by_cases hl : xs.length ≤ 1048576
  · have h3 := thO_len W H xs ds rs hc
    repeat (first
      | (refine ⟨⟨by kernel_rfl, by kernel_rfl⟩, ?_⟩; conv => whnf)
      | (refine And.intro (by first | omega | (simp; done) | (simp; omega)) ?_; conv => whnf)
      | (refine Or.inl (And.intro (by omega) ?_); conv => whnf)
      | (refine br_intro (fun h => by exfalso; first | (simp at h; done) | (simp at h; omega) | omega) (fun _ => ?_); conv => whnf)
      | (refine br_intro (fun _ => ?_) (fun h => by exfalso; first | (simp at h; done) | (simp at h; omega) | omega); conv => whnf)
      | (refine Exists.intro _ (And.intro (lSzHill (by first | omega | (simp; done) | (simp; omega)) (by first | omega | (simp; done) | (simp; omega))) ?_); conv => whnf)
      | (refine Exists.intro _ (And.intro (lToHill (by first | omega | (simp; done) | (simp; omega))) ?_); conv => whnf)
      | (refine Exists.intro _ (And.intro (lToI (by first | omega | (simp; done) | (simp; omega))) ?_); conv => whnf)
      | (refine Exists.intro _ (And.intro (lToF32 (by first | omega | (simp; done) | (simp; omega))) ?_); conv => whnf)
      | (refine Exists.intro _ (And.intro (sThrough (by first | omega | (simp; done) | (simp; omega)) (by first | omega | (simp; done) | (simp; omega)) (by first | omega | (simp; done) | (simp; omega))) ?_); conv => whnf)
      | (refine Exists.intro _ (And.intro (iThrough (by first | omega | (simp; done) | (simp; omega)) (by first | omega | (simp; done) | (simp; omega)) (by first | omega | (simp; done) | (simp; omega))) ?_); conv => whnf)
      | (refine Exists.intro _ (And.intro (lEqHill (by first | omega | (simp; done) | (simp; omega))) ?_); conv => whnf)
      | (refine Exists.intro _ (And.intro (lEqI (by first | omega | (simp; done) | (simp; omega))) ?_); conv => whnf)
      | (refine Exists.intro _ (And.intro (lEqF32' (by first | omega | (simp; done) | (simp; omega))) ?_); conv => whnf)
      | (refine Exists.intro _ (Exists.intro _ (And.intro (And.intro (lMarkHill (by first | omega | (simp; done) | (simp; omega)) (by first | omega | (simp; done) | (simp; omega)) (by first | omega | (simp; done) | (simp; omega))) (by simp)) ?_)); conv => whnf)
      | (refine Exists.intro _ (Exists.intro _ (And.intro (And.intro (lMarkI (by first | omega | (simp; done) | (simp; omega)) (by first | omega | (simp; done) | (simp; omega)) (by first | omega | (simp; done) | (simp; omega))) (by simp)) ?_)); conv => whnf)
      | (refine Exists.intro _ (Exists.intro _ (And.intro (And.intro (lMarkF (by first | omega | (simp; done) | (simp; omega)) (by first | omega | (simp; done) | (simp; omega)) (by first | omega | (simp; done) | (simp; omega))) (by simp)) ?_)); conv => whnf)
      | (refine Exists.intro _ (And.intro (lHeldI (by first | omega | (simp; done) | (simp; omega)) (by first | omega | (simp; done) | (simp; omega)) (by first | omega | (simp; done) | (simp; omega))) ?_); conv => whnf)
      | (refine Exists.intro _ (And.intro (lHeldF (by first | omega | (simp; done) | (simp; omega)) (by first | omega | (simp; done) | (simp; omega)) (by first | omega | (simp; done) | (simp; omega))) ?_); conv => whnf)
      | (refine Exists.intro _ (And.intro (lHeldHill (by first | omega | (simp; done) | (simp; omega)) (by first | omega | (simp; done) | (simp; omega)) (by first | omega | (simp; done) | (simp; omega))) ?_); conv => whnf))
  · repeat (first
      | (refine ⟨⟨by kernel_rfl, by kernel_rfl⟩, ?_⟩; conv => whnf)
      | (refine And.intro (by first | omega | (simp; done) | (simp; omega)) ?_; conv => whnf)
      | (refine Or.inl (And.intro (by omega) ?_); conv => whnf)
      | (refine br_intro (fun h => by exfalso; first | (simp at h; done) | (simp at h; omega) | omega) (fun _ => ?_); conv => whnf)
      | (refine br_intro (fun _ => ?_) (fun h => by exfalso; first | (simp at h; done) | (simp at h; omega) | omega); conv => whnf)
      | (refine Exists.intro _ (And.intro (lSzHill' (by first | omega | (simp; done) | (simp; omega)) (by first | omega | (simp; done) | (simp; omega)) (by first | omega | (simp; done) | (simp; omega))) ?_); conv => whnf))

end Go.Proofs.Ytldlfjcaaaigkaa
