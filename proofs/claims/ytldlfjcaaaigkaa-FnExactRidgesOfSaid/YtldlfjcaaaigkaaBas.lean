/- What each function of this seat does (Bas). Printed from templates of this seat's own. -/
import Derived.Test.YtldlfjcaaaigkaaPat
namespace Go.Proofs.Ytldlfjcaaaigkaa
open Go.Ax Go.Bx
set_option maxRecDepth 8000
set_option linter.unusedSimpArgs false
set_option linter.unusedVariables false
/-- The mouth of a path: its last cell. -/
noncomputable def mth (ds : List Int) (c : Int) : Int := (paL ds c).getD ((paL ds c).length - 1) 0
/-- Where a number first stands in a list, or the list's length. -/
def fstN (l : List Int) (d : Int) : Nat → Int
  | 0 => -1
  | n + 1 => bif decide (fstN l d n < 0) && (l.getD n 0 == d) then (n : Int) else fstN l d n
noncomputable def hidI (x : Int) : Int := hid x
noncomputable def baF (s : List Int × List Int) (m : Int) : List Int × List Int :=
  bif decide (fstN s.1 m s.1.length < 0) then (s.1 ++ [m], s.2 ++ [(s.1.length : Int)]) else (s.1, s.2 ++ [fstN s.1 m s.1.length])
noncomputable def baS (ds : List Int) : Nat → List Int × List Int
  | 0 => ([], [])
  | i + 1 => baF (baS ds i) (mth ds i)
theorem fstN_range (l : List Int) (d : Int) : ∀ n, -1 ≤ fstN l d n ∧ fstN l d n < n
  | 0 => by unfold fstN; omega
  | n + 1 => by
    have := fstN_range l d n
    rw [fstN]
    cases (decide (fstN l d n < 0) && (l.getD n 0 == d))
    · rw [cond_false]; omega
    · rw [cond_true]; omega
theorem baS_len (ds : List Int) : ∀ i, (baS ds i).1.length ≤ i ∧ (baS ds i).2.length = i
  | 0 => ⟨Nat.le_refl _, rfl⟩
  | i + 1 => by
    have := baS_len ds i
    rw [baS, baF]
    cases decide (fstN (baS ds i).1 (mth ds i) (baS ds i).1.length < 0)
    · rw [cond_false]; simp; omega
    · rw [cond_true]; simp; omega
/-- Where a number last stands in a list. -/
def lstN (l : List Int) (d : Int) : Nat → Int
  | 0 => -1
  | n + 1 => bif l.getD n 0 == d then (n : Int) else lstN l d n
theorem fstN_neg {l : List Int} {d : Int} : ∀ {n : Nat}, fstN l d n < 0 ↔ ∀ i, i < n → l.getD i 0 ≠ d
  | 0 => by simp [fstN]
  | n + 1 => by
    have ih := @fstN_neg l d n
    rw [fstN]
    by_cases h : fstN l d n < 0
    · rw [decide_eq_true h, Bool.true_and]
      by_cases e : l.getD n 0 = d
      · rw [show (l.getD n 0 == d) = true by simpa using e, cond_true]
        constructor
        · intro h'; omega
        · intro h'; exact absurd e (h' n (by omega))
      · rw [show (l.getD n 0 == d) = false by simpa using e, cond_false]
        constructor
        · intro _ i hi
          by_cases e' : i = n
          · subst e'; exact e
          · exact ih.1 h i (by omega)
        · intro _; exact h
    · rw [decide_eq_false h, Bool.false_and, cond_false]
      constructor
      · intro h'; exact absurd h' h
      · intro h'; exact absurd (ih.2 fun i hi => h' i (by omega)) h
/-- No number stands twice. -/
def Dis (l : List Int) : Prop := ∀ i j, i < l.length → j < l.length → l.getD i 0 = l.getD j 0 → i = j
theorem lst_fst {l : List Int} {d : Int} (hD : Dis l) : ∀ n, n ≤ l.length → lstN l d n = fstN l d n
  | 0, _ => rfl
  | n + 1, hn => by
    have ih := lst_fst (d := d) hD n (by omega)
    rw [lstN, fstN]
    by_cases e : l.getD n 0 = d
    · have : fstN l d n < 0 := fstN_neg.2 fun i hi h => by
        have := hD i n (by omega) (by omega) (h.trans e.symm)
        omega
      rw [show (l.getD n 0 == d) = true by simpa using e, decide_eq_true this]; rfl
    · rw [show (l.getD n 0 == d) = false by simpa using e, Bool.and_false, cond_false, cond_false, ih]
theorem baS_dis (ds : List Int) : ∀ i, Dis (baS ds i).1
  | 0 => fun i j hi _ _ => absurd hi (by simp [baS])
  | i + 1 => by
    have ih := baS_dis ds i
    rw [baS, baF]
    cases h : decide (fstN (baS ds i).1 (mth ds i) (baS ds i).1.length < 0)
    · exact ih
    · rw [cond_true]
      have hno := fstN_neg.1 (of_decide_eq_true h)
      intro a b ha hb e
      simp only [List.length_append, List.length_singleton] at ha hb
      have hg : ∀ k, k < (baS ds i).1.length + 1 → ((baS ds i).1 ++ [mth ds i]).getD k 0 = if k < (baS ds i).1.length then (baS ds i).1.getD k 0 else mth ds i := fun k hk => by
        rw [List.getD_eq_getElem?_getD]
        split
        · rename_i hlt
          rw [List.getElem?_append_left hlt, ← List.getD_eq_getElem?_getD]
        · rename_i hge
          have : k = (baS ds i).1.length := by omega
          subst this
          rw [List.getElem?_append_right (Nat.le_refl _)]; simp
      rw [hg a ha, hg b hb] at e
      split at e <;> split at e
      · exact ih a b (by assumption) (by assumption) e
      · exact absurd e (hno a (by assumption))
      · exact absurd e.symm (hno b (by assumption))
      · omega
theorem baF_new {s : List Int × List Int} {m : Int} (h : fstN s.1 m s.1.length < 0) : baF s m = (s.1 ++ [m], s.2 ++ [(s.1.length : Int)]) := by
  rw [baF, decide_eq_true h, cond_true]
theorem baF_old {s : List Int × List Int} {m : Int} (h : ¬ fstN s.1 m s.1.length < 0) : baF s m = (s.1, s.2 ++ [fstN s.1 m s.1.length]) := by
  rw [baF, decide_eq_false h, cond_false]

theorem sBas {W H : Int} {ds : List Int} {t : AV} (hW : Wys W H ds) : Does Try.prog 43 [.sli (.int .i64) ds t] (.tup [.own 0 (.int .i64) (baS ds ds.length).2, .int .i64 (baS ds ds.length).1.length]) := by
  have hl := hW.2.1
  have hm := hW.2.2.1
  refine Does.of_awp (X := cx 56) Try.func43 rfl (by kernel_rfl) rfl (by simp [cx]) [48] rfl ?_
  conv => whnf
  repeat (first
    | (refine ⟨⟨by kernel_rfl, by kernel_rfl⟩, ?_⟩; conv => whnf)
    | (refine And.intro (by first | omega | (simp; done) | (simp; omega)) ?_; conv => whnf)
    | (refine Or.inl (And.intro (by omega) ?_); conv => whnf))
  refine ⟨Nat, fun i => i ≤ ds.length, fun i => [(0, .sli (.int .i64) ds t), (4, .osl 44), (5, .osl 48), (6, .int .i64 i)], fun i => [(44, .tab (.int .i64) (baS ds i).1), (48, .tab (.int .i64) (baS ds i).2)], fun i => ds.length - i, ⟨0, id, Nat.zero_le _, rfl, ⟨rfl, rfl, rfl, rfl, trivial⟩, ⟨rfl, rfl, trivial⟩⟩, fun i hi => ?_⟩
  dsimp only at hi
  obtain ⟨b1, b2⟩ := baS_len ds i
  conv => whnf
  (refine br_intro (fun h => ?_) (fun h => ?_) <;> (conv => whnf))
  · have h : i < ds.length := by simp at h; omega
    have hc : 0 ≤ (i : Int) ∧ (i : Int) < W * H := by omega
    have hpl : 1 ≤ (paL ds i).length ∧ (paL ds i).length ≤ 257 := by
      obtain ⟨_, p3, p4, _⟩ := paM_spec hW hc
      rw [paL, tabN_len]; omega
    have em : (paL ds i).getD (((paL ds i).length : Int) - 1).toNat (RK.int .i64).z = mth ds i := by
      unfold mth; rw [show (((paL ds i).length : Int) - 1).toNat = (paL ds i).length - 1 by omega]; rfl
    repeat (first
      | (refine ⟨⟨by kernel_rfl, by kernel_rfl⟩, ?_⟩; conv => whnf)
      | (refine And.intro (by first | omega | (simp; done) | (simp; omega)) ?_; conv => whnf)
      | (refine Or.inl (And.intro (by omega) ?_); conv => whnf)
      | (refine Exists.intro _ (And.intro (sPath hW hc) ?_); conv => whnf))
    rw [em]
    refine ⟨Nat, fun j => j ≤ (baS ds i).1.length, fun j => [(0, .sli (.int .i64) ds t), (4, .osl 44), (5, .osl 48), (6, .int .i64 i), (8, .int .i64 (mth ds i)), (9, .int .i64 (lstN (baS ds i).1 (mth ds i) j)), (10, .int .i64 j)], fun j => [(44, .tab (.int .i64) (baS ds i).1), (48, .tab (.int .i64) (baS ds i).2)], fun j => (baS ds i).1.length - j, ⟨0, id, Nat.zero_le _, rfl, ⟨rfl, rfl, rfl, rfl, rfl, rfl, rfl, trivial⟩, ⟨rfl, rfl, trivial⟩⟩, fun j hj => ?_⟩
    dsimp only at hj
    conv => whnf
    (refine br_intro (fun h2 => ?_) (fun h2 => ?_) <;> (conv => whnf))
    · have h2 : j < (baS ds i).1.length := by simp at h2; omega
      repeat (first
        | (refine ⟨⟨by kernel_rfl, by kernel_rfl⟩, ?_⟩; conv => whnf)
        | (refine And.intro (by first | omega | (simp; done) | (simp; omega)) ?_; conv => whnf)
        | (refine Or.inl (And.intro (by omega) ?_); conv => whnf))
      (refine br_intro (fun h3 => ?_) (fun h3 => ?_) <;> (conv => whnf))
      · have h3 : ((baS ds i).1.getD j 0 == mth ds i) = true := h3
        have e : (j : Int) = lstN (baS ds i).1 (mth ds i) (j + 1) := by rw [lstN, h3, cond_true]
        repeat (first
          | (refine ⟨⟨by kernel_rfl, by kernel_rfl⟩, ?_⟩; conv => whnf)
          | (refine And.intro (by first | omega | (simp; done) | (simp; omega)) ?_; conv => whnf)
          | (refine Or.inl (And.intro (by omega) ?_); conv => whnf))
        refine ⟨j + 1, id, ⟨h2, by dsimp only; omega⟩, rfl, ⟨rfl, rfl, rfl, rfl, rfl, congrArg (AV.int .i64) e, rfl, trivial⟩, ⟨rfl, rfl, trivial⟩⟩
      · have h3 : ((baS ds i).1.getD j 0 == mth ds i) = false := h3
        have e : lstN (baS ds i).1 (mth ds i) j = lstN (baS ds i).1 (mth ds i) (j + 1) := by rw [lstN, h3, cond_false]
        repeat (first
          | (refine ⟨⟨by kernel_rfl, by kernel_rfl⟩, ?_⟩; conv => whnf)
          | (refine And.intro (by first | omega | (simp; done) | (simp; omega)) ?_; conv => whnf)
          | (refine Or.inl (And.intro (by omega) ?_); conv => whnf))
        refine ⟨j + 1, id, ⟨h2, by dsimp only; omega⟩, rfl, ⟨rfl, rfl, rfl, rfl, rfl, congrArg (AV.int .i64) e, rfl, trivial⟩, ⟨rfl, rfl, trivial⟩⟩
    · have h2 : j = (baS ds i).1.length := by simp at h2; omega
      subst h2
      have eL := lst_fst (d := mth ds i) (baS_dis ds i) _ (Nat.le_refl _)
      repeat (first
        | (refine ⟨⟨by kernel_rfl, by kernel_rfl⟩, ?_⟩; conv => whnf)
        | (refine And.intro (by first | omega | (simp; done) | (simp; omega)) ?_; conv => whnf)
        | (refine Or.inl (And.intro (by omega) ?_); conv => whnf))
      (refine br_intro (fun h4 => ?_) (fun h4 => ?_) <;> (conv => whnf))
      · have h4 : fstN (baS ds i).1 (mth ds i) (baS ds i).1.length < 0 := by rw [← eL]; simpa using h4
        have e1 := congrArg Prod.fst (baF_new h4)
        have e2 := congrArg Prod.snd (baF_new h4)
        repeat (first
          | (refine ⟨⟨by kernel_rfl, by kernel_rfl⟩, ?_⟩; conv => whnf)
          | (refine And.intro (by first | omega | (simp; done) | (simp; omega)) ?_; conv => whnf)
          | (refine Or.inl (And.intro (by omega) ?_); conv => whnf))
        refine ⟨i + 1, ren [(44, 192), (48, 208)], ⟨h, by dsimp only; omega⟩, rfl, ⟨rfl, rfl, rfl, rfl, trivial⟩, ⟨congrArg (fun l => KS.live (Blk.tab (.int .i64) l)) e1.symm, congrArg (fun l => KS.live (Blk.tab (.int .i64) l)) e2.symm, trivial⟩⟩
      · have h4 : ¬ fstN (baS ds i).1 (mth ds i) (baS ds i).1.length < 0 := by rw [← eL]; simpa using h4
        have e1 := congrArg Prod.fst (baF_old h4)
        have e2 := congrArg Prod.snd (baF_old h4)
        rw [← eL] at e2
        repeat (first
          | (refine ⟨⟨by kernel_rfl, by kernel_rfl⟩, ?_⟩; conv => whnf)
          | (refine And.intro (by first | omega | (simp; done) | (simp; omega)) ?_; conv => whnf)
          | (refine Or.inl (And.intro (by omega) ?_); conv => whnf))
        refine ⟨i + 1, ren [(48, 208)], ⟨h, by dsimp only; omega⟩, rfl, ⟨rfl, rfl, rfl, rfl, trivial⟩, ⟨congrArg (fun l => KS.live (Blk.tab (.int .i64) l)) e1.symm, congrArg (fun l => KS.live (Blk.tab (.int .i64) l)) e2.symm, trivial⟩⟩
  · have h : i = ds.length := by simp at h; omega
    subst h
    repeat (first
      | (refine ⟨⟨by kernel_rfl, by kernel_rfl⟩, ?_⟩; conv => whnf)
      | (refine And.intro (by first | omega | (simp; done) | (simp; omega)) ?_; conv => whnf)
      | (refine Or.inl (And.intro (by omega) ?_); conv => whnf))
    all_goals (try (conv => whnf))
    all_goals (repeat' (first | exact True.intro | (refine And.intro ?_ ?_ <;> (conv => whnf))))
    all_goals (first | rfl | (simp_all []; done) | (simp only [cond_true, cond_false, Bool.and_true, Bool.true_and, Bool.and_false, Bool.false_and]; rfl) | (simp_all []; omega))
theorem fst_stop {l : List Int} {d : Int} {n : Nat} (h : ¬ fstN l d n < 0) : ∀ m, fstN l d (n + m) = fstN l d n
  | 0 => rfl
  | m + 1 => by
    have := fst_stop h m
    show fstN l d (n + m + 1) = _
    rw [fstN, this, decide_eq_false h, Bool.false_and, cond_false]

theorem xIndexI {xs : List Int} {t : AV} {d : Int} (hn : xs.length ≤ 1048576) : Does Try.prog 71 [.sli (.int .i64) xs t, .int .i64 d] (.int .i64 (fstN xs d xs.length)) := by
  refine Does.of_awp (X := cx 19) Try.func71 rfl (by kernel_rfl) rfl (by simp [cx]) [] rfl ?_
  conv => whnf
  repeat (first
    | (refine ⟨⟨by kernel_rfl, by kernel_rfl⟩, ?_⟩; conv => whnf)
    | (refine And.intro (by first | omega | (simp; done) | (simp; omega)) ?_; conv => whnf)
    | (refine Or.inl (And.intro (by omega) ?_); conv => whnf))
  refine ⟨Nat, fun i => i ≤ xs.length ∧ fstN xs d i = -1, fun i => [(0, .sli (.int .i64) xs t), (1, .int .i64 d), (7, .int .i64 xs.length), (8, .int .i64 i)], fun _ => [], fun i => xs.length - i, ⟨0, id, ⟨Nat.zero_le _, rfl⟩, rfl, ⟨rfl, rfl, rfl, rfl, trivial⟩, trivial⟩, fun i hi => ?_⟩
  obtain ⟨hi, hA⟩ := hi
  conv => whnf
  (refine br_intro (fun h => ?_) (fun h => ?_) <;> (conv => whnf))
  · have h : i < xs.length := by simp at h; omega
    repeat (first
      | (refine ⟨⟨by kernel_rfl, by kernel_rfl⟩, ?_⟩; conv => whnf)
      | (refine And.intro (by first | omega | (simp; done) | (simp; omega)) ?_; conv => whnf)
      | (refine Or.inl (And.intro (by omega) ?_); conv => whnf))
    (refine br_intro (fun h2 => ?_) (fun h2 => ?_) <;> (conv => whnf))
    · have h2 : (d == xs.getD i 0) = true := h2
      have h3 : (xs.getD i 0 == d) = true := beq_iff_eq.2 (beq_iff_eq.1 h2).symm
      have e : fstN xs d (i + 1) = i := by rw [fstN, hA, h3]; rfl
      have e2 := fst_stop (l := xs) (d := d) (n := i + 1) (by rw [e]; omega) (xs.length - (i + 1))
      rw [show i + 1 + (xs.length - (i + 1)) = xs.length by omega, e] at e2
      rw [e2]
      repeat (first
        | (refine ⟨⟨by kernel_rfl, by kernel_rfl⟩, ?_⟩; conv => whnf)
        | (refine And.intro (by first | omega | (simp; done) | (simp; omega)) ?_; conv => whnf)
        | (refine Or.inl (And.intro (by omega) ?_); conv => whnf))
      all_goals (try (conv => whnf))
      all_goals (repeat' (first | exact True.intro | (refine And.intro ?_ ?_ <;> (conv => whnf))))
      all_goals (first | rfl | (simp_all []; done) | (simp only [cond_true, cond_false, Bool.and_true, Bool.true_and, Bool.and_false, Bool.false_and]; rfl) | (simp_all []; omega))
    · have h2 : (d == xs.getD i 0) = false := h2
      have h3 : (xs.getD i 0 == d) = false := beq_eq_false_iff_ne.2 fun e => beq_eq_false_iff_ne.1 h2 e.symm
      repeat (first
        | (refine ⟨⟨by kernel_rfl, by kernel_rfl⟩, ?_⟩; conv => whnf)
        | (refine And.intro (by first | omega | (simp; done) | (simp; omega)) ?_; conv => whnf)
        | (refine Or.inl (And.intro (by omega) ?_); conv => whnf))
      refine ⟨i + 1, id, ⟨⟨h, by rw [fstN, hA, h3]; rfl⟩, by dsimp only; omega⟩, rfl, ⟨rfl, rfl, rfl, rfl, trivial⟩, trivial⟩
  · have h : i = xs.length := by simp at h; omega
    subst h
    rw [hA]

theorem iBas {W H : Int} {ds : List Int} {t : AV} (hW : Wys W H ds) : Does Try.prog 45 [.sli (.int .i64) ds t] (.tup [.own 0 (.int .i64) (baS ds ds.length).2, .int .i64 (baS ds ds.length).1.length]) := by
  have hl := hW.2.1
  have hm := hW.2.2.1
  refine Does.of_awp (X := cx 45) Try.func45 rfl (by kernel_rfl) rfl (by simp [cx]) [40] rfl ?_
  conv => whnf
  repeat (first
    | (refine ⟨⟨by kernel_rfl, by kernel_rfl⟩, ?_⟩; conv => whnf)
    | (refine And.intro (by first | omega | (simp; done) | (simp; omega)) ?_; conv => whnf)
    | (refine Or.inl (And.intro (by omega) ?_); conv => whnf))
  refine ⟨Nat, fun i => i ≤ ds.length, fun i => [(0, .sli (.int .i64) ds t), (4, .osl 40), (5, .osl 44), (13, .int .i64 ds.length), (14, .int .i64 i)], fun i => [(44, .tab (.int .i64) (baS ds i).1), (40, .tab (.int .i64) (baS ds i).2)], fun i => ds.length - i, ⟨0, id, Nat.zero_le _, rfl, ⟨rfl, rfl, rfl, rfl, rfl, trivial⟩, ⟨rfl, rfl, trivial⟩⟩, fun i hi => ?_⟩
  dsimp only at hi
  obtain ⟨b1, b2⟩ := baS_len ds i
  conv => whnf
  (refine br_intro (fun h => ?_) (fun h => ?_) <;> (conv => whnf))
  · have h : i < ds.length := by simp at h; omega
    have hc : 0 ≤ (i : Int) ∧ (i : Int) < W * H := by omega
    have hpl : 1 ≤ (paL ds i).length ∧ (paL ds i).length ≤ 257 := by
      obtain ⟨_, p3, p4, _⟩ := paM_spec hW hc
      rw [paL, tabN_len]; omega
    have em : (paL ds i).getD (((paL ds i).length : Int) - 1).toNat (RK.int .i64).z = mth ds i := by
      unfold mth; rw [show (((paL ds i).length : Int) - 1).toNat = (paL ds i).length - 1 by omega]; rfl
    repeat (first
      | (refine ⟨⟨by kernel_rfl, by kernel_rfl⟩, ?_⟩; conv => whnf)
      | (refine And.intro (by first | omega | (simp; done) | (simp; omega)) ?_; conv => whnf)
      | (refine Or.inl (And.intro (by omega) ?_); conv => whnf)
      | (refine Exists.intro _ (And.intro (iPath hW hc) ?_); conv => whnf))
    rw [em]
    repeat (first
      | (refine ⟨⟨by kernel_rfl, by kernel_rfl⟩, ?_⟩; conv => whnf)
      | (refine And.intro (by first | omega | (simp; done) | (simp; omega)) ?_; conv => whnf)
      | (refine Or.inl (And.intro (by omega) ?_); conv => whnf)
      | (refine Exists.intro _ (And.intro (xIndexI (by first | omega | (simp; done) | (simp; omega))) ?_); conv => whnf))
    (refine br_intro (fun h4 => ?_) (fun h4 => ?_) <;> (conv => whnf))
    · have h4 : fstN (baS ds i).1 (mth ds i) (baS ds i).1.length < 0 := by simpa using h4
      have e1 := congrArg Prod.fst (baF_new h4)
      have e2 := congrArg Prod.snd (baF_new h4)
      repeat (first
        | (refine ⟨⟨by kernel_rfl, by kernel_rfl⟩, ?_⟩; conv => whnf)
        | (refine And.intro (by first | omega | (simp; done) | (simp; omega)) ?_; conv => whnf)
        | (refine Or.inl (And.intro (by omega) ?_); conv => whnf))
      refine ⟨i + 1, ren [(44, 144), (40, 160)], ⟨h, by dsimp only; omega⟩, rfl, ⟨rfl, rfl, rfl, rfl, rfl, trivial⟩, ⟨congrArg (fun l => KS.live (Blk.tab (.int .i64) l)) e1.symm, congrArg (fun l => KS.live (Blk.tab (.int .i64) l)) e2.symm, trivial⟩⟩
    · have h4 : ¬ fstN (baS ds i).1 (mth ds i) (baS ds i).1.length < 0 := by simpa using h4
      have e1 := congrArg Prod.fst (baF_old h4)
      have e2 := congrArg Prod.snd (baF_old h4)
      repeat (first
        | (refine ⟨⟨by kernel_rfl, by kernel_rfl⟩, ?_⟩; conv => whnf)
        | (refine And.intro (by first | omega | (simp; done) | (simp; omega)) ?_; conv => whnf)
        | (refine Or.inl (And.intro (by omega) ?_); conv => whnf))
      refine ⟨i + 1, ren [(40, 160)], ⟨h, by dsimp only; omega⟩, rfl, ⟨rfl, rfl, rfl, rfl, rfl, trivial⟩, ⟨congrArg (fun l => KS.live (Blk.tab (.int .i64) l)) e1.symm, congrArg (fun l => KS.live (Blk.tab (.int .i64) l)) e2.symm, trivial⟩⟩
  · have h : i = ds.length := by simp at h; omega
    subst h
    repeat (first
      | (refine ⟨⟨by kernel_rfl, by kernel_rfl⟩, ?_⟩; conv => whnf)
      | (refine And.intro (by first | omega | (simp; done) | (simp; omega)) ?_; conv => whnf)
      | (refine Or.inl (And.intro (by omega) ?_); conv => whnf))
    all_goals (try (conv => whnf))
    all_goals (repeat' (first | exact True.intro | (refine And.intro ?_ ?_ <;> (conv => whnf))))
    all_goals (first | rfl | (simp_all []; done) | (simp only [cond_true, cond_false, Bool.and_true, Bool.true_and, Bool.and_false, Bool.false_and]; rfl) | (simp_all []; omega))
noncomputable def baO (W H : Int) (xs : List Nat) (ds : List Int) : List Int := bif waysB W H xs ds then (baS ds ds.length).2 else []
noncomputable def baN (W H : Int) (xs : List Nat) (ds : List Int) : Int := bif waysB W H xs ds then ((baS ds ds.length).1.length : Int) else 0
theorem baO_len (W H : Int) (xs : List Nat) (ds : List Int) (h : ds.length ≤ 1048576) : (baO W H xs ds).length ≤ 1048576 := by
  unfold baO
  cases waysB W H xs ds
  · exact Nat.zero_le _
  · rw [cond_true, (baS_len ds ds.length).2]; exact h

end Go.Proofs.Ytldlfjcaaaigkaa
