/- What each function of this seat does (Bas). Printed from templates of this seat's own. -/
import Derived.Test.YtngmlbeafdaolaaPat
namespace Go.Proofs.Ytngmlbeafdaolaa
open Go.Ax Go.Bx
set_option maxRecDepth 8000
set_option linter.unusedSimpArgs false
set_option linter.unusedVariables false
/-- The mouth of a path: its last cell. -/
noncomputable def mth (ds : List Int) (c : Int) : Int := (paL ds c).getD ((paL ds c).length - 1) 0
/-- Where a number first stands in a list, or the list's length. -/
def fstN (l : List Int) (d : Int) : Nat → Int
  | 0 => -1
  | n + 1 => bif decide (fstN l d n < 0) && (l.getD n 0 == d) then (n : Int) else fstN l d n
noncomputable def hidI (x : Int) : Int := hid x
noncomputable def baF (s : List Int × List Int) (m : Int) : List Int × List Int :=
  bif decide (fstN s.1 m s.1.length < 0) then (s.1 ++ [m], s.2 ++ [(s.1.length : Int)]) else (s.1, s.2 ++ [fstN s.1 m s.1.length])
noncomputable def baS (ds : List Int) : Nat → List Int × List Int
  | 0 => ([], [])
  | i + 1 => baF (baS ds i) (mth ds i)
theorem fstN_range (l : List Int) (d : Int) : ∀ n, -1 ≤ fstN l d n ∧ fstN l d n < n
  | 0 => by unfold fstN; omega
  | n + 1 => by
    have := fstN_range l d n
    rw [fstN]
    cases (decide (fstN l d n < 0) && (l.getD n 0 == d))
    · rw [cond_false]; omega
    · rw [cond_true]; omega
theorem baS_len (ds : List Int) : ∀ i, (baS ds i).1.length ≤ i ∧ (baS ds i).2.length = i
  | 0 => ⟨Nat.le_refl _, rfl⟩
  | i + 1 => by
    have := baS_len ds i
    rw [baS, baF]
    cases decide (fstN (baS ds i).1 (mth ds i) (baS ds i).1.length < 0)
    · rw [cond_false]; simp; omega
    · rw [cond_true]; simp; omega
/-- Where a number last stands in a list. -/
def lstN (l : List Int) (d : Int) : Nat → Int
  | 0 => -1
  | n + 1 => bif l.getD n 0 == d then (n : Int) else lstN l d n
theorem fstN_neg {l : List Int} {d : Int} : ∀ {n : Nat}, fstN l d n < 0 ↔ ∀ i, i < n → l.getD i 0 ≠ d
  | 0 => by simp [fstN]
  | n + 1 => by
    have ih := @fstN_neg l d n
    rw [fstN]
    by_cases h : fstN l d n < 0
    · rw [decide_eq_true h, Bool.true_and]
      by_cases e : l.getD n 0 = d
      · rw [show (l.getD n 0 == d) = true by simpa using e, cond_true]
        constructor
        · intro h'; omega
        · intro h'; exact absurd e (h' n (by omega))
      · rw [show (l.getD n 0 == d) = false by simpa using e, cond_false]
        constructor
        · intro _ i hi
          by_cases e' : i = n
          · subst e'; exact e
          · exact ih.1 h i (by omega)
        · intro _; exact h
    · rw [decide_eq_false h, Bool.false_and, cond_false]
      constructor
      · intro h'; exact absurd h' h
      · intro h'; exact absurd (ih.2 fun i hi => h' i (by omega)) h
/-- No number stands twice. -/
def Dis (l : List Int) : Prop := ∀ i j, i < l.length → j < l.length → l.getD i 0 = l.getD j 0 → i = j
theorem lst_fst {l : List Int} {d : Int} (hD : Dis l) : ∀ n, n ≤ l.length → lstN l d n = fstN l d n
  | 0, _ => rfl
  | n + 1, hn => by
    have ih := lst_fst (d := d) hD n (by omega)
    rw [lstN, fstN]
    by_cases e : l.getD n 0 = d
    · have : fstN l d n < 0 := fstN_neg.2 fun i hi h => by
        have := hD i n (by omega) (by omega) (h.trans e.symm)
        omega
      rw [show (l.getD n 0 == d) = true by simpa using e, decide_eq_true this]; rfl
    · rw [show (l.getD n 0 == d) = false by simpa using e, Bool.and_false, cond_false, cond_false, ih]
theorem baS_dis (ds : List Int) : ∀ i, Dis (baS ds i).1
  | 0 => fun i j hi _ _ => absurd hi (by simp [baS])
  | i + 1 => by
    have ih := baS_dis ds i
    rw [baS, baF]
    cases h : decide (fstN (baS ds i).1 (mth ds i) (baS ds i).1.length < 0)
    · exact ih
    · rw [cond_true]
      have hno := fstN_neg.1 (of_decide_eq_true h)
      intro a b ha hb e
      simp only [List.length_append, List.length_singleton] at ha hb
      have hg : ∀ k, k < (baS ds i).1.length + 1 → ((baS ds i).1 ++ [mth ds i]).getD k 0 = if k < (baS ds i).1.length then (baS ds i).1.getD k 0 else mth ds i := fun k hk => by
        rw [List.getD_eq_getElem?_getD]
        split
        · rename_i hlt
          rw [List.getElem?_append_left hlt, ← List.getD_eq_getElem?_getD]
        · rename_i hge
          have : k = (baS ds i).1.length := by omega
          subst this
          rw [List.getElem?_append_right (Nat.le_refl _)]; simp
      rw [hg a ha, hg b hb] at e
      split at e <;> split at e
      · exact ih a b (by assumption) (by assumption) e
      · exact absurd e (hno a (by assumption))
      · exact absurd e.symm (hno b (by assumption))
      · omega
theorem baF_new {s : List Int × List Int} {m : Int} (h : fstN s.1 m s.1.length < 0) : baF s m = (s.1 ++ [m], s.2 ++ [(s.1.length : Int)]) := by
  rw [baF, decide_eq_true h, cond_true]
theorem baF_old {s : List Int × List Int} {m : Int} (h : ¬ fstN s.1 m s.1.length < 0) : baF s m = (s.1, s.2 ++ [fstN s.1 m s.1.length]) := by
  rw [baF, decide_eq_false h, cond_false]

theorem fst_stop {l : List Int} {d : Int} {n : Nat} (h : ¬ fstN l d n < 0) : ∀ m, fstN l d (n + m) = fstN l d n
  | 0 => rfl
  | m + 1 => by
    have := fst_stop h m
    show fstN l d (n + m + 1) = _
    rw [fstN, this, decide_eq_false h, Bool.false_and, cond_false]

theorem xIndexI {xs : List Int} {t : AV} {d : Int} (hn : xs.length ≤ 1048576) : Does Try.prog 84 [.sli (.int .i64) xs t, .int .i64 d] (.int .i64 (fstN xs d xs.length)) := by
  refine Does.of_awp (X := cx 19) Try.func84 rfl (by kernel_rfl) rfl (by simp [cx]) [] rfl ?_
  conv => whnf
  repeat (first
    | (refine ⟨⟨by kernel_rfl, by kernel_rfl⟩, ?_⟩; conv => whnf)
    | (refine And.intro (by first | omega | (simp; done) | (simp; omega)) ?_; conv => whnf)
    | (refine Or.inl (And.intro (by omega) ?_); conv => whnf))
  refine ⟨Nat, fun i => i ≤ xs.length ∧ fstN xs d i = -1, fun i => [(0, .sli (.int .i64) xs t), (1, .int .i64 d), (7, .int .i64 xs.length), (8, .int .i64 i)], fun _ => [], fun i => xs.length - i, ⟨0, id, ⟨Nat.zero_le _, rfl⟩, rfl, ⟨rfl, rfl, rfl, rfl, trivial⟩, trivial⟩, fun i hi => ?_⟩
  obtain ⟨hi, hA⟩ := hi
  conv => whnf
  (refine br_intro (fun h => ?_) (fun h => ?_) <;> (conv => whnf))
  · have h : i < xs.length := by simp at h; omega
    repeat (first
      | (refine ⟨⟨by kernel_rfl, by kernel_rfl⟩, ?_⟩; conv => whnf)
      | (refine And.intro (by first | omega | (simp; done) | (simp; omega)) ?_; conv => whnf)
      | (refine Or.inl (And.intro (by omega) ?_); conv => whnf))
    (refine br_intro (fun h2 => ?_) (fun h2 => ?_) <;> (conv => whnf))
    · have h2 : (d == xs.getD i 0) = true := h2
      have h3 : (xs.getD i 0 == d) = true := beq_iff_eq.2 (beq_iff_eq.1 h2).symm
      have e : fstN xs d (i + 1) = i := by rw [fstN, hA, h3]; rfl
      have e2 := fst_stop (l := xs) (d := d) (n := i + 1) (by rw [e]; omega) (xs.length - (i + 1))
      rw [show i + 1 + (xs.length - (i + 1)) = xs.length by omega, e] at e2
      rw [e2]
      repeat (first
        | (refine ⟨⟨by kernel_rfl, by kernel_rfl⟩, ?_⟩; conv => whnf)
        | (refine And.intro (by first | omega | (simp; done) | (simp; omega)) ?_; conv => whnf)
        | (refine Or.inl (And.intro (by omega) ?_); conv => whnf))
      all_goals (try (conv => whnf))
      all_goals (repeat' (first | exact True.intro | (refine And.intro ?_ ?_ <;> (conv => whnf))))
      all_goals (first | rfl | (simp_all []; done) | (simp only [cond_true, cond_false, Bool.and_true, Bool.true_and, Bool.and_false, Bool.false_and]; rfl) | (simp_all []; omega))
    · have h2 : (d == xs.getD i 0) = false := h2
      have h3 : (xs.getD i 0 == d) = false := beq_eq_false_iff_ne.2 fun e => beq_eq_false_iff_ne.1 h2 e.symm
      repeat (first
        | (refine ⟨⟨by kernel_rfl, by kernel_rfl⟩, ?_⟩; conv => whnf)
        | (refine And.intro (by first | omega | (simp; done) | (simp; omega)) ?_; conv => whnf)
        | (refine Or.inl (And.intro (by omega) ?_); conv => whnf))
      refine ⟨i + 1, id, ⟨⟨h, by rw [fstN, hA, h3]; rfl⟩, by dsimp only; omega⟩, rfl, ⟨rfl, rfl, rfl, rfl, trivial⟩, trivial⟩
  · have h : i = xs.length := by simp at h; omega
    subst h
    rw [hA]

theorem iBas {W H : Int} {ds : List Int} {t : AV} (hW : Wys W H ds) : Does Try.prog 63 [.sli (.int .i64) ds t] (.tup [.own 0 (.int .i64) (baS ds ds.length).2, .int .i64 (baS ds ds.length).1.length]) := by
  have hl := hW.2.1
  have hm := hW.2.2.1
  refine Does.of_awp (X := cx 45) Try.func63 rfl (by kernel_rfl) rfl (by simp [cx]) [40] rfl ?_
  conv => whnf
  repeat (first
    | (refine ⟨⟨by kernel_rfl, by kernel_rfl⟩, ?_⟩; conv => whnf)
    | (refine And.intro (by first | omega | (simp; done) | (simp; omega)) ?_; conv => whnf)
    | (refine Or.inl (And.intro (by omega) ?_); conv => whnf))
  refine ⟨Nat, fun i => i ≤ ds.length, fun i => [(0, .sli (.int .i64) ds t), (4, .osl 40), (5, .osl 44), (13, .int .i64 ds.length), (14, .int .i64 i)], fun i => [(44, .tab (.int .i64) (baS ds i).1), (40, .tab (.int .i64) (baS ds i).2)], fun i => ds.length - i, ⟨0, id, Nat.zero_le _, rfl, ⟨rfl, rfl, rfl, rfl, rfl, trivial⟩, ⟨rfl, rfl, trivial⟩⟩, fun i hi => ?_⟩
  dsimp only at hi
  obtain ⟨b1, b2⟩ := baS_len ds i
  conv => whnf
  (refine br_intro (fun h => ?_) (fun h => ?_) <;> (conv => whnf))
  · have h : i < ds.length := by simp at h; omega
    have hc : 0 ≤ (i : Int) ∧ (i : Int) < W * H := by omega
    have hpl : 1 ≤ (paL ds i).length ∧ (paL ds i).length ≤ 257 := by
      obtain ⟨_, p3, p4, _⟩ := paM_spec hW hc
      rw [paL, tabN_len]; omega
    have em : (paL ds i).getD (((paL ds i).length : Int) - 1).toNat (RK.int .i64).z = mth ds i := by
      unfold mth; rw [show (((paL ds i).length : Int) - 1).toNat = (paL ds i).length - 1 by omega]; rfl
    repeat (first
      | (refine ⟨⟨by kernel_rfl, by kernel_rfl⟩, ?_⟩; conv => whnf)
      | (refine And.intro (by first | omega | (simp; done) | (simp; omega)) ?_; conv => whnf)
      | (refine Or.inl (And.intro (by omega) ?_); conv => whnf)
      | (refine Exists.intro _ (And.intro (iPath hW hc) ?_); conv => whnf))
    rw [em]
    repeat (first
      | (refine ⟨⟨by kernel_rfl, by kernel_rfl⟩, ?_⟩; conv => whnf)
      | (refine And.intro (by first | omega | (simp; done) | (simp; omega)) ?_; conv => whnf)
      | (refine Or.inl (And.intro (by omega) ?_); conv => whnf)
      | (refine Exists.intro _ (And.intro (xIndexI (by first | omega | (simp; done) | (simp; omega))) ?_); conv => whnf))
    (refine br_intro (fun h4 => ?_) (fun h4 => ?_) <;> (conv => whnf))
    · have h4 : fstN (baS ds i).1 (mth ds i) (baS ds i).1.length < 0 := by simpa using h4
      have e1 := congrArg Prod.fst (baF_new h4)
      have e2 := congrArg Prod.snd (baF_new h4)
      repeat (first
        | (refine ⟨⟨by kernel_rfl, by kernel_rfl⟩, ?_⟩; conv => whnf)
        | (refine And.intro (by first | omega | (simp; done) | (simp; omega)) ?_; conv => whnf)
        | (refine Or.inl (And.intro (by omega) ?_); conv => whnf))
      refine ⟨i + 1, ren [(44, 144), (40, 160)], ⟨h, by dsimp only; omega⟩, rfl, ⟨rfl, rfl, rfl, rfl, rfl, trivial⟩, ⟨congrArg (fun l => KS.live (Blk.tab (.int .i64) l)) e1.symm, congrArg (fun l => KS.live (Blk.tab (.int .i64) l)) e2.symm, trivial⟩⟩
    · have h4 : ¬ fstN (baS ds i).1 (mth ds i) (baS ds i).1.length < 0 := by simpa using h4
      have e1 := congrArg Prod.fst (baF_old h4)
      have e2 := congrArg Prod.snd (baF_old h4)
      repeat (first
        | (refine ⟨⟨by kernel_rfl, by kernel_rfl⟩, ?_⟩; conv => whnf)
        | (refine And.intro (by first | omega | (simp; done) | (simp; omega)) ?_; conv => whnf)
        | (refine Or.inl (And.intro (by omega) ?_); conv => whnf))
      refine ⟨i + 1, ren [(40, 160)], ⟨h, by dsimp only; omega⟩, rfl, ⟨rfl, rfl, rfl, rfl, rfl, trivial⟩, ⟨congrArg (fun l => KS.live (Blk.tab (.int .i64) l)) e1.symm, congrArg (fun l => KS.live (Blk.tab (.int .i64) l)) e2.symm, trivial⟩⟩
  · have h : i = ds.length := by simp at h; omega
    subst h
    repeat (first
      | (refine ⟨⟨by kernel_rfl, by kernel_rfl⟩, ?_⟩; conv => whnf)
      | (refine And.intro (by first | omega | (simp; done) | (simp; omega)) ?_; conv => whnf)
      | (refine Or.inl (And.intro (by omega) ?_); conv => whnf))
    all_goals (try (conv => whnf))
    all_goals (repeat' (first | exact True.intro | (refine And.intro ?_ ?_ <;> (conv => whnf))))
    all_goals (first | rfl | (simp_all []; done) | (simp only [cond_true, cond_false, Bool.and_true, Bool.true_and, Bool.and_false, Bool.false_and]; rfl) | (simp_all []; omega))
noncomputable def baO (W H : Int) (xs : List Nat) (ds : List Int) : List Int := bif waysB W H xs ds then (baS ds ds.length).2 else []
noncomputable def baN (W H : Int) (xs : List Nat) (ds : List Int) : Int := bif waysB W H xs ds then ((baS ds ds.length).1.length : Int) else 0
theorem baO_len (W H : Int) (xs : List Nat) (ds : List Int) (h : ds.length ≤ 1048576) : (baO W H xs ds).length ≤ 1048576 := by
  unfold baO
  cases waysB W H xs ds
  · exact Nat.zero_le _
  · rw [cond_true, (baS_len ds ds.length).2]; exact h

theorem iBasins {W H : Int} {xs : List Nat} {ds : List Int} {t t2 : AV} (hn : xs.length ≤ 1048576) (hn' : ds.length ≤ 1048576) : Does Try.prog 32 [.agg [.int .i64 W, .int .i64 H, .sli .f32 xs t], .sli (.int .i64) ds t2] (.tup [.own 0 (.int .i64) (baO W H xs ds), .int .i64 (baN W H xs ds), .bool (waysB W H xs ds)]) := by
  refine Does.of_awp (X := cx 20) Try.func32 rfl (by kernel_rfl) rfl (by simp [cx]) [60] rfl ?_
  conv => whnf
  repeat (first
    | (refine ⟨⟨by kernel_rfl, by kernel_rfl⟩, ?_⟩; conv => whnf)
    | (refine And.intro (by first | omega | (simp; done) | (simp; omega)) ?_; conv => whnf)
    | (refine Or.inl (And.intro (by omega) ?_); conv => whnf)
    | (refine Exists.intro _ (And.intro (iWaysB (by first | omega | (simp; done) | (simp; omega)) (by first | omega | (simp; done) | (simp; omega))) ?_); conv => whnf))
  (refine br_intro (fun g1 => ?_) (fun g1 => ?_) <;> (conv => whnf))
  · have g1 : waysB W H xs ds = false := by simpa using g1
    all_goals (try (conv => whnf))
    all_goals (repeat' (first | exact True.intro | (refine And.intro ?_ ?_ <;> (conv => whnf))))
    all_goals (first | rfl | (simp_all [baO, baN]; done) | (simp only [baO, baN, cond_true, cond_false, Bool.and_true, Bool.true_and, Bool.and_false, Bool.false_and]; rfl) | (simp_all [baO, baN]; omega))
  have g1 : waysB W H xs ds = true := by simpa using g1
  have hW := waysB_Wys g1
  have eO : baO W H xs ds = (baS ds ds.length).2 := by rw [baO, g1]; rfl
  have eN : baN W H xs ds = (baS ds ds.length).1.length := by rw [baN, g1]; rfl
  rw [g1, eO, eN]
  clear eO eN g1
  repeat (first
    | (refine ⟨⟨by kernel_rfl, by kernel_rfl⟩, ?_⟩; conv => whnf)
    | (refine And.intro (by first | omega | (simp; done) | (simp; omega)) ?_; conv => whnf)
    | (refine Or.inl (And.intro (by omega) ?_); conv => whnf)
    | (refine Exists.intro _ (And.intro (iBas hW) ?_); conv => whnf))
  all_goals (try (conv => whnf))
  all_goals (repeat' (first | exact True.intro | (refine And.intro ?_ ?_ <;> (conv => whnf))))
  all_goals (first | rfl | (simp_all []; done) | (simp only [cond_true, cond_false, Bool.and_true, Bool.true_and, Bool.and_false, Bool.false_and]; rfl) | (simp_all []; omega))

def rdP (bs : List Int) (c : Nat) (r : Int × Nat) : Bool := bs.getD r.1.toNat 0 != bs.getD c 0
noncomputable def rdQ (W H : Int) (bs : List Int) (c : Nat) (k : Nat) : Bool := (nbL W H c k).any (rdP bs c)
theorem rdQ_no {W H : Int} {bs : List Int} {c k : Nat} (h : nbOk W H c k = false) : rdQ W H bs c k = rdQ W H bs c (k + 1) := by
  unfold rdQ; rw [← nbL_no h]
theorem rdQ_yes {W H : Int} {bs : List Int} {c k : Nat} (h : nbOk W H c k = true) : (rdQ W H bs c k || rdP bs c (nbC W c k, farK k)) = rdQ W H bs c (k + 1) := by
  unfold rdQ; rw [← nbL_yes h, List.any_append]; simp
noncomputable def rdL (W H : Int) (ds : List Int) : Nat → List Int
  | 0 => []
  | i + 1 => bif rdQ W H (baS ds ds.length).2 i 8 then rdL W H ds i ++ [(i : Int)] else rdL W H ds i
theorem rdL_len (W H : Int) (ds : List Int) : ∀ i, (rdL W H ds i).length ≤ i
  | 0 => Nat.le_refl _
  | i + 1 => by
    have := rdL_len W H ds i
    rw [rdL]
    cases rdQ W H (baS ds ds.length).2 i 8
    · rw [cond_false]; omega
    · rw [cond_true]; simp; omega
noncomputable def rdO (W H : Int) (xs : List Nat) (ds : List Int) : List Int := bif waysB W H xs ds then rdL W H ds ds.length else []
theorem rdO_len (W H : Int) (xs : List Nat) (ds : List Int) (h : ds.length ≤ 1048576) : (rdO W H xs ds).length ≤ 1048576 := by
  unfold rdO
  cases waysB W H xs ds
  · exact Nat.zero_le _
  · rw [cond_true]; exact Nat.le_trans (rdL_len W H ds _) h
theorem rdL_yes {W H : Int} {ds : List Int} {i : Nat} (h : rdQ W H (baS ds ds.length).2 i 8 = true) : rdL W H ds (i + 1) = rdL W H ds i ++ [(i : Int)] := by rw [rdL, h, cond_true]
theorem rdL_no {W H : Int} {ds : List Int} {i : Nat} (h : rdQ W H (baS ds ds.length).2 i 8 = false) : rdL W H ds (i + 1) = rdL W H ds i := by rw [rdL, h, cond_false]

theorem iRidge1 {r : Int × Nat} {bs : List Int} {c : Nat} {u1 u2 u3 : AV} (h1 : 0 ≤ r.1 ∧ r.1 < bs.length) (h2 : c < bs.length) : Does Try.prog 65 [.agg [.int .i64 r.1, .flt .f32 r.2], .ref [.sli (.int .i64) bs u1] u2, .ref [.int .i64 c] u3] (.bool (rdP bs c r)) := by
  refine Does.of_awp (X := cx 15) Try.func65 rfl (by kernel_rfl) rfl (by simp [cx]) [] rfl ?_
  conv => whnf
  repeat (first
    | (refine ⟨⟨by kernel_rfl, by kernel_rfl⟩, ?_⟩; conv => whnf)
    | (refine And.intro (by first | omega | (simp; done) | (simp; omega)) ?_; conv => whnf)
    | (refine Or.inl (And.intro (by omega) ?_); conv => whnf))
  all_goals (try (conv => whnf))
  all_goals (repeat' (first | exact True.intro | (refine And.intro ?_ ?_ <;> (conv => whnf))))
  all_goals (first | rfl | (simp_all [rdP]; done) | (simp only [rdP, cond_true, cond_false, Bool.and_true, Bool.true_and, Bool.and_false, Bool.false_and]; rfl) | (simp_all [rdP]; omega))
theorem xIndexFuncR {xs : List (Int × Nat)} {bs : List Int} {c : Nat} (hn : xs.length ≤ 1048576) (hr : ∀ r ∈ xs, 0 ≤ r.1 ∧ r.1 < bs.length) (hc : c < bs.length) :
    ∃ n : Int, (∀ t u1 u2 u3, Does Try.prog 80 [.sli .nb xs t, .fn 65 [.ref [.sli (.int .i64) bs u1] u2, .ref [.int .i64 c] u3]] (.int .i64 n)) ∧ decide (n ≥ 0) = !allN (fun j => !(rdP bs c (xs.getD j RK.nb.z))) xs.length := by
  have hat : ∀ i, i < xs.length → 0 ≤ (xs.getD i RK.nb.z).1 ∧ (xs.getD i RK.nb.z).1 < bs.length := fun i hi => hr _ (getD_mem hi _)
  by_cases hex : ∃ i, i < xs.length ∧ (!(rdP bs c (xs.getD i RK.nb.z))) = false ∧ allN (fun j => !(rdP bs c (xs.getD j RK.nb.z))) i = true
  · obtain ⟨k, hk, hpk, hak⟩ := hex
    refine ⟨k, fun t u1 u2 u3 => ?_, by rw [allN_false hk hpk]; simp⟩
    refine Does.of_awp (X := cx 19) Try.func80 rfl (by kernel_rfl) rfl (by simp [cx]) [] rfl ?_
    conv => whnf
    refine ⟨Nat, fun i => i ≤ k, fun i => [(0, .sli .nb xs t), (1, .fn 65 [.ref [.sli (.int .i64) bs u1] u2, .ref [.int .i64 c] u3]), (7, .int .i64 xs.length), (8, .int .i64 i)], fun _ => [], fun i => xs.length - i, ⟨0, id, Nat.zero_le _, rfl, ⟨rfl, rfl, rfl, rfl, trivial⟩, trivial⟩, fun i hi => ?_⟩
    conv => whnf
    (refine br_intro (fun h => ?_) (fun h => ?_) <;> (conv => whnf))
    · have h : i < xs.length := by simp at h; omega
      have hb := hat i h
      have eb : ∀ u1 u2 u3, Does Try.prog 65 [.agg [.int .i64 (xs.getD i RK.nb.z).1, .flt .f32 (xs.getD i RK.nb.z).2], .ref [.sli (.int .i64) bs u1] u2, .ref [.int .i64 c] u3] (.bool (rdP bs c (xs.getD i RK.nb.z))) := fun u1 u2 u3 => iRidge1 hb hc
      repeat (first
        | (refine ⟨⟨by kernel_rfl, by kernel_rfl⟩, ?_⟩; conv => whnf)
        | (refine And.intro (by first | omega | (simp; done) | (simp; omega)) ?_; conv => whnf)
        | (refine Or.inl (And.intro (by omega) ?_); conv => whnf)
        | (refine Exists.intro _ (And.intro (eb _ _ _) ?_); conv => whnf))
      (refine br_intro (fun hs => ?_) (fun hs => ?_) <;> (conv => whnf))
      · have hs : rdP bs c (xs.getD i RK.nb.z) = true := hs
        have : ¬ i < k := fun hlt => by have := allN_iff.1 hak i hlt; simp only [hs] at this; cases this
        have : i = k := by dsimp only at hi; omega
        subst this
        all_goals (try (conv => whnf))
        all_goals (repeat' (first | exact True.intro | (refine And.intro ?_ ?_ <;> (conv => whnf))))
        all_goals (first | rfl | (simp_all []; done) | (simp only [cond_true, cond_false, Bool.and_true, Bool.true_and, Bool.and_false, Bool.false_and]; rfl) | (simp_all []; omega))
      · have hs : rdP bs c (xs.getD i RK.nb.z) = false := hs
        have : i ≠ k := fun e => by subst e; rw [hs] at hpk; cases hpk
        repeat (first
          | (refine ⟨⟨by kernel_rfl, by kernel_rfl⟩, ?_⟩; conv => whnf)
          | (refine And.intro (by first | omega | (simp; done) | (simp; omega)) ?_; conv => whnf)
          | (refine Or.inl (And.intro (by omega) ?_); conv => whnf))
        refine ⟨i + 1, id, ⟨by dsimp only at hi ⊢; omega, by dsimp only; omega⟩, rfl, ⟨rfl, rfl, rfl, rfl, trivial⟩, trivial⟩
    · exfalso; simp at h; dsimp only at hi; omega
  · have hall : ∀ i, i ≤ xs.length → allN (fun j => !(rdP bs c (xs.getD j RK.nb.z))) i = true := by
      intro i
      induction i with
      | zero => intro _; rfl
      | succ i ih =>
        intro hi
        have ih := ih (by omega)
        rw [allN, ih, Bool.true_and]
        cases hp : (!(rdP bs c (xs.getD i RK.nb.z))) with
        | true => rfl
        | false => exact absurd ⟨i, by omega, hp, ih⟩ hex
    refine ⟨-1, fun t u1 u2 u3 => ?_, by rw [hall _ (Nat.le_refl _)]; simp⟩
    refine Does.of_awp (X := cx 19) Try.func80 rfl (by kernel_rfl) rfl (by simp [cx]) [] rfl ?_
    conv => whnf
    refine ⟨Nat, fun i => i ≤ xs.length, fun i => [(0, .sli .nb xs t), (1, .fn 65 [.ref [.sli (.int .i64) bs u1] u2, .ref [.int .i64 c] u3]), (7, .int .i64 xs.length), (8, .int .i64 i)], fun _ => [], fun i => xs.length - i, ⟨0, id, Nat.zero_le _, rfl, ⟨rfl, rfl, rfl, rfl, trivial⟩, trivial⟩, fun i hi => ?_⟩
    conv => whnf
    (refine br_intro (fun h => ?_) (fun h => ?_) <;> (conv => whnf))
    · have h : i < xs.length := by simp at h; omega
      have hb := hat i h
      have eb : ∀ u1 u2 u3, Does Try.prog 65 [.agg [.int .i64 (xs.getD i RK.nb.z).1, .flt .f32 (xs.getD i RK.nb.z).2], .ref [.sli (.int .i64) bs u1] u2, .ref [.int .i64 c] u3] (.bool (rdP bs c (xs.getD i RK.nb.z))) := fun u1 u2 u3 => iRidge1 hb hc
      repeat (first
        | (refine ⟨⟨by kernel_rfl, by kernel_rfl⟩, ?_⟩; conv => whnf)
        | (refine And.intro (by first | omega | (simp; done) | (simp; omega)) ?_; conv => whnf)
        | (refine Or.inl (And.intro (by omega) ?_); conv => whnf)
        | (refine Exists.intro _ (And.intro (eb _ _ _) ?_); conv => whnf))
      (refine br_intro (fun hs => ?_) (fun hs => ?_) <;> (conv => whnf))
      · have hs : rdP bs c (xs.getD i RK.nb.z) = true := hs
        have := allN_iff.1 (hall _ (Nat.le_refl _)) i h
        simp only [hs] at this; cases this
      · repeat (first
          | (refine ⟨⟨by kernel_rfl, by kernel_rfl⟩, ?_⟩; conv => whnf)
          | (refine And.intro (by first | omega | (simp; done) | (simp; omega)) ?_; conv => whnf)
          | (refine Or.inl (And.intro (by omega) ?_); conv => whnf))
        refine ⟨i + 1, id, ⟨h, by dsimp only; omega⟩, rfl, ⟨rfl, rfl, rfl, rfl, trivial⟩, trivial⟩
theorem any_allR {xs : List (Int × Nat)} {p : Int × Nat → Bool} : (!allN (fun j => !(p (xs.getD j RK.nb.z))) xs.length) = xs.any p := by
  rw [allN_list (fun r : Int × Nat => !(p r)) xs RK.nb.z, ← List.not_any_eq_all_not, Bool.not_not]
theorem xContainsFuncR {xs : List (Int × Nat)} {t u1 u2 u3 : AV} {bs : List Int} {c : Nat} (hn : xs.length ≤ 1048576) (hr : ∀ r ∈ xs, 0 ≤ r.1 ∧ r.1 < bs.length) (hc : c < bs.length) :
    Does Try.prog 51 [.sli .nb xs t, .fn 65 [.ref [.sli (.int .i64) bs u1] u2, .ref [.int .i64 c] u3]] (.bool (xs.any (rdP bs c))) := by
  obtain ⟨n, h1, h2⟩ := xIndexFuncR (xs := xs) hn hr hc
  rw [← any_allR, ← h2]
  clear h2
  refine Does.of_awp (X := cx 9) Try.func51 rfl (by kernel_rfl) rfl (by simp [cx]) [] rfl ?_
  conv => whnf
  repeat (first
    | (refine ⟨⟨by kernel_rfl, by kernel_rfl⟩, ?_⟩; conv => whnf)
    | (refine And.intro (by first | omega | (simp; done) | (simp; omega)) ?_; conv => whnf)
    | (refine Or.inl (And.intro (by omega) ?_); conv => whnf)
    | (refine Exists.intro _ (And.intro (h1 _ _ _ _) ?_); conv => whnf))
  all_goals (try (conv => whnf))
  all_goals (repeat' (first | exact True.intro | (refine And.intro ?_ ?_ <;> (conv => whnf))))
  all_goals (first | rfl | (simp_all []; done) | (simp only [cond_true, cond_false, Bool.and_true, Bool.true_and, Bool.and_false, Bool.false_and]; rfl) | (simp_all []; omega))

theorem iRidges {W H : Int} {xs : List Nat} {ds : List Int} {t t2 : AV} (hn : xs.length ≤ 1048576) (hn' : ds.length ≤ 1048576) : Does Try.prog 35 [.agg [.int .i64 W, .int .i64 H, .sli .f32 xs t], .sli (.int .i64) ds t2] (.tup [.own 0 (.int .i64) (rdO W H xs ds), .bool (waysB W H xs ds)]) := by
  refine Does.of_awp (X := cx 36) Try.func35 rfl (by kernel_rfl) rfl (by simp [cx]) [76] rfl ?_
  conv => whnf
  repeat (first
    | (refine ⟨⟨by kernel_rfl, by kernel_rfl⟩, ?_⟩; conv => whnf)
    | (refine And.intro (by first | omega | (simp; done) | (simp; omega)) ?_; conv => whnf)
    | (refine Or.inl (And.intro (by omega) ?_); conv => whnf)
    | (refine Exists.intro _ (And.intro (iWaysB (by first | omega | (simp; done) | (simp; omega)) (by first | omega | (simp; done) | (simp; omega))) ?_); conv => whnf))
  (refine br_intro (fun g1 => ?_) (fun g1 => ?_) <;> (conv => whnf))
  · have g1 : waysB W H xs ds = false := by simpa using g1
    all_goals (try (conv => whnf))
    all_goals (repeat' (first | exact True.intro | (refine And.intro ?_ ?_ <;> (conv => whnf))))
    all_goals (first | rfl | (simp_all [rdO]; done) | (simp only [rdO, cond_true, cond_false, Bool.and_true, Bool.true_and, Bool.and_false, Bool.false_and]; rfl) | (simp_all [rdO]; omega))
  have g1 : waysB W H xs ds = true := by simpa using g1
  have hW := waysB_Wys g1
  have hl := hW.2.1
  have hm := hW.2.2.1
  obtain ⟨b1, b2⟩ := baS_len ds ds.length
  have eO : rdO W H xs ds = rdL W H ds ds.length := by rw [rdO, g1]; rfl
  rw [g1, eO]
  clear eO g1
  repeat (first
    | (refine ⟨⟨by kernel_rfl, by kernel_rfl⟩, ?_⟩; conv => whnf)
    | (refine And.intro (by first | omega | (simp; done) | (simp; omega)) ?_; conv => whnf)
    | (refine Or.inl (And.intro (by omega) ?_); conv => whnf)
    | (refine Exists.intro _ (And.intro (iBas hW) ?_); conv => whnf))
  refine ⟨Nat, fun i => i ≤ ds.length, fun i => [(1, .sli (.int .i64) ds t2), (2, .loc 8 0), (6, .loc 24 0), (8, .osl 76), (21, .int .i64 ds.length), (22, .int .i64 i)], fun i => [(8, .av [.int .i64 W, .int .i64 H, .sli .f32 xs t]), (24, .av [.osl 64]), (64, .tab (.int .i64) (baS ds ds.length).2), (76, .tab (.int .i64) (rdL W H ds i))], fun i => ds.length - i, ⟨0, id, Nat.zero_le _, rfl, ⟨rfl, rfl, rfl, rfl, rfl, rfl, trivial⟩, ⟨rfl, rfl, rfl, rfl, trivial⟩⟩, fun i hi => ?_⟩
  dsimp only at hi
  have hrl := rdL_len W H ds i
  conv => whnf
  (refine br_intro (fun h => ?_) (fun h => ?_) <;> (conv => whnf))
  · have h : i < ds.length := by simp at h; omega
    have hC : Cel W H i := ⟨hW.1, by omega, by omega⟩
    have hlen := nbL_len W H i 8
    have e : ∀ t u1 u2 u3, Does Try.prog 51 [.sli .nb (nbL W H i 8) t, .fn 65 [.ref [.sli (.int .i64) (baS ds ds.length).2 u1] u2, .ref [.int .i64 i] u3]] (.bool (rdQ W H (baS ds ds.length).2 i 8)) := fun t u1 u2 u3 =>
      xContainsFuncR (by omega) (fun r hr => by have := nbL_mem hW.1.1 hr; rw [b2]; omega) (by rw [b2]; exact h)
    repeat (first
      | (refine ⟨⟨by kernel_rfl, by kernel_rfl⟩, ?_⟩; conv => whnf)
      | (refine And.intro (by first | omega | (simp; done) | (simp; omega)) ?_; conv => whnf)
      | (refine Or.inl (And.intro (by omega) ?_); conv => whnf)
      | (refine Exists.intro _ (And.intro (iNbrs hC) ?_); conv => whnf)
      | (refine Exists.intro _ (And.intro (e _ _ _ _) ?_); conv => whnf))
    (refine br_intro (fun h3 => ?_) (fun h3 => ?_) <;> (conv => whnf))
    · have h3 : rdQ W H (baS ds ds.length).2 i 8 = true := h3
      have e := rdL_yes h3
      repeat (first
        | (refine ⟨⟨by kernel_rfl, by kernel_rfl⟩, ?_⟩; conv => whnf)
        | (refine And.intro (by first | omega | (simp; done) | (simp; omega)) ?_; conv => whnf)
        | (refine Or.inl (And.intro (by omega) ?_); conv => whnf))
      refine ⟨i + 1, ren [(76, 132)], ⟨h, by dsimp only; omega⟩, rfl, ⟨rfl, rfl, rfl, rfl, rfl, rfl, trivial⟩, ⟨rfl, rfl, rfl, congrArg (fun l => KS.live (Blk.tab (.int .i64) l)) e.symm, trivial⟩⟩
    · have h3 : rdQ W H (baS ds ds.length).2 i 8 = false := h3
      have e := rdL_no h3
      repeat (first
        | (refine ⟨⟨by kernel_rfl, by kernel_rfl⟩, ?_⟩; conv => whnf)
        | (refine And.intro (by first | omega | (simp; done) | (simp; omega)) ?_; conv => whnf)
        | (refine Or.inl (And.intro (by omega) ?_); conv => whnf))
      refine ⟨i + 1, id, ⟨h, by dsimp only; omega⟩, rfl, ⟨rfl, rfl, rfl, rfl, rfl, rfl, trivial⟩, ⟨rfl, rfl, rfl, congrArg (fun l => KS.live (Blk.tab (.int .i64) l)) e.symm, trivial⟩⟩
  · have h : i = ds.length := by simp at h; omega
    subst h
    repeat (first
      | (refine ⟨⟨by kernel_rfl, by kernel_rfl⟩, ?_⟩; conv => whnf)
      | (refine And.intro (by first | omega | (simp; done) | (simp; omega)) ?_; conv => whnf)
      | (refine Or.inl (And.intro (by omega) ?_); conv => whnf))
    all_goals (try (conv => whnf))
    all_goals (repeat' (first | exact True.intro | (refine And.intro ?_ ?_ <;> (conv => whnf))))
    all_goals (first | rfl | (simp_all []; done) | (simp only [cond_true, cond_false, Bool.and_true, Bool.true_and, Bool.and_false, Bool.false_and]; rfl) | (simp_all []; omega))

end Go.Proofs.Ytngmlbeafdaolaa
