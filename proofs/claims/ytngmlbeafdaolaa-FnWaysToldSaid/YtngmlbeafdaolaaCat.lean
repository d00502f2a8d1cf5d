/- What each function of this seat does (Cat). Printed from templates of this seat's own. -/
import Derived.Test.YtngmlbeafdaolaaPat
namespace Go.Proofs.Ytngmlbeafdaolaa
open Go.Ax Go.Bx
set_option maxRecDepth 8000
set_option linter.unusedSimpArgs false
set_option linter.unusedVariables false
def ctU (l : List Int) (c : Int) : List Int := l.set c.toNat (l.getD c.toNat 0 + 1)
@[simp] theorem ctU_len (l : List Int) (c : Int) : (ctU l c).length = l.length := by simp [ctU]
theorem fo_ctU_len (l : List Int) (p : List Int) : ∀ j, (fo ctU l p j).length = l.length := by
  intro j
  unfold fo
  generalize p.take j = q
  induction q generalizing l with
  | nil => rfl
  | cons x q ih => rw [List.foldl_cons, ih, ctU_len]
def Bnd (l : List Int) (B : Int) : Prop := ∀ k : Nat, 0 ≤ l.getD k 0 ∧ l.getD k 0 ≤ B
theorem ctU_bnd {l : List Int} {B c : Int} (h : Bnd l B) : Bnd (ctU l c) (B + 1) := fun k => by
  unfold ctU
  have hk := h k
  have hc := h c.toNat
  by_cases e : k = c.toNat
  · by_cases hl : c.toNat < l.length
    · rw [e, getD_set _ _ _ _ hl]; omega
    · rw [List.set_eq_of_length_le (by omega)]; omega
  · rw [List.getD_eq_getElem?_getD, List.getElem?_set_ne (fun h => e h.symm), ← List.getD_eq_getElem?_getD]; omega
theorem fo_bnd {l : List Int} {B : Int} {p : List Int} (h : Bnd l B) : ∀ j, j ≤ p.length → Bnd (fo ctU l p j) (B + j)
  | 0, _ => by simpa [fo] using h
  | j + 1, hj => by
    rw [fo_succ ctU l (show j < p.length by omega) (0 : Int)]
    have := ctU_bnd (c := p.getD j 0) (fo_bnd (p := p) h j (by omega))
    rw [show B + ((j + 1 : Nat) : Int) = B + j + 1 by omega]; exact this
noncomputable def caS (ds : List Int) : Nat → List Int
  | 0 => List.replicate ds.length (0 : Int)
  | i + 1 => (paL ds i).foldl ctU (caS ds i)
theorem caS_len (ds : List Int) : ∀ i, (caS ds i).length = ds.length
  | 0 => by simp [caS]
  | i + 1 => by rw [caS, ← fo_all, fo_ctU_len, caS_len ds i]
theorem caS_bnd {W H : Int} {ds : List Int} (hW : Wys W H ds) : ∀ i, i ≤ ds.length → Bnd (caS ds i) ((i : Int) * 257)
  | 0, _ => fun k => by
    unfold caS
    rw [List.getD_eq_getElem?_getD, List.getElem?_replicate]
    split <;> simp
  | i + 1, hi => by
    have ih := caS_bnd hW i (by omega)
    have hl := hW.2.1
    have hm := hW.2.2.1
    obtain ⟨_, p3, p4, _⟩ := paM_spec hW (c := i) (by omega)
    have hpl : (paL ds i).length ≤ 257 := by rw [paL, tabN_len]; omega
    have := fo_bnd (p := paL ds i) ih (paL ds i).length (Nat.le_refl _)
    rw [fo_all] at this
    intro k
    have hk := this k
    rw [caS]
    rw [show ((i + 1 : Nat) : Int) * 257 = (i : Int) * 257 + 257 by omega]
    omega
theorem paL_range {W H c : Int} {ds : List Int} (hW : Wys W H ds) (hc : 0 ≤ c ∧ c < W * H) {j : Nat} (hj : j < (paL ds c).length) : 0 ≤ (paL ds c).getD j 0 ∧ (paL ds c).getD j 0 < W * H := by
  obtain ⟨⟨p1, p2⟩, p3, p4, p5⟩ := paM_spec hW hc
  rw [paL, tabN_len] at hj
  rw [paL, tabN_getD _ hj]
  exact ⟨p2 j hj, (p5 j).2⟩
noncomputable def caO (W H : Int) (xs : List Nat) (ds : List Int) : List Int := bif waysB W H xs ds then caS ds ds.length else []
theorem caO_len (W H : Int) (xs : List Nat) (ds : List Int) (h : ds.length ≤ 1048576) : (caO W H xs ds).length ≤ 1048576 := by
  unfold caO
  cases waysB W H xs ds
  · exact Nat.zero_le _
  · rw [cond_true, caS_len]; exact h

theorem iCatch {W H : Int} {xs : List Nat} {ds : List Int} {t t2 : AV} (hn : xs.length ≤ 1048576) (hn' : ds.length ≤ 1048576) : Does Try.prog 30 [.agg [.int .i64 W, .int .i64 H, .sli .f32 xs t], .sli (.int .i64) ds t2] (.tup [.own 0 (.int .i64) (caO W H xs ds), .bool (waysB W H xs ds)]) := by
  refine Does.of_awp (X := cx 39) Try.func30 rfl (by kernel_rfl) rfl (by simp [cx]) [64] rfl ?_
  conv => whnf
  repeat (first
    | (refine ⟨⟨by kernel_rfl, by kernel_rfl⟩, ?_⟩; conv => whnf)
    | (refine And.intro (by first | omega | (simp; done) | (simp; omega)) ?_; conv => whnf)
    | (refine Or.inl (And.intro (by omega) ?_); conv => whnf)
    | (refine Exists.intro _ (And.intro (iWaysB (by first | omega | (simp; done) | (simp; omega)) (by first | omega | (simp; done) | (simp; omega))) ?_); conv => whnf))
  (refine br_intro (fun g1 => ?_) (fun g1 => ?_) <;> (conv => whnf))
  · have g1 : waysB W H xs ds = false := by simpa using g1
    all_goals (try (conv => whnf))
    all_goals (repeat' (first | exact True.intro | (refine And.intro ?_ ?_ <;> (conv => whnf))))
    all_goals (first | rfl | (simp_all [caO]; done) | (simp only [caO, cond_true, cond_false, Bool.and_true, Bool.true_and, Bool.and_false, Bool.false_and]; rfl) | (simp_all [caO]; omega))
  have g1 : waysB W H xs ds = true := by simpa using g1
  have hW := waysB_Wys g1
  have hl := hW.2.1
  have hm := hW.2.2.1
  have eO : caO W H xs ds = caS ds ds.length := by rw [caO, g1]; rfl
  rw [g1, eO]
  clear eO g1
  repeat (first
    | (refine ⟨⟨by kernel_rfl, by kernel_rfl⟩, ?_⟩; conv => whnf)
    | (refine And.intro (by first | omega | (simp; done) | (simp; omega)) ?_; conv => whnf)
    | (refine Or.inl (And.intro (by omega) ?_); conv => whnf))
  refine ⟨Nat, fun i => i ≤ ds.length, fun i => [(1, .sli (.int .i64) ds t2), (6, .osl 64), (18, .int .i64 ds.length), (19, .int .i64 i)], fun i => [(64, .tab (.int .i64) (caS ds i))], fun i => ds.length - i, ⟨0, id, Nat.zero_le _, rfl, ⟨rfl, rfl, rfl, rfl, trivial⟩, ⟨rfl, trivial⟩⟩, fun i hi => ?_⟩
  dsimp only at hi
  conv => whnf
  (refine br_intro (fun h => ?_) (fun h => ?_) <;> (conv => whnf))
  · have h : i < ds.length := by simp at h; omega
    have hc : 0 ≤ (i : Int) ∧ (i : Int) < W * H := by omega
    have hb := caS_bnd hW i hi
    repeat (first
      | (refine ⟨⟨by kernel_rfl, by kernel_rfl⟩, ?_⟩; conv => whnf)
      | (refine And.intro (by first | omega | (simp; done) | (simp; omega)) ?_; conv => whnf)
      | (refine Or.inl (And.intro (by omega) ?_); conv => whnf)
      | (refine Exists.intro _ (And.intro (iPath hW hc) ?_); conv => whnf))
    refine ⟨Nat, fun j => j ≤ (paL ds i).length, fun j => [(1, .sli (.int .i64) ds t2), (6, .osl 64), (18, .int .i64 ds.length), (19, .int .i64 i), (24, .osl 96), (25, .int .i64 (paL ds i).length), (26, .int .i64 j)], fun j => [(64, .tab (.int .i64) (fo ctU (caS ds i) (paL ds i) j)), (96, .tab (.int .i64) (paL ds i))], fun j => (paL ds i).length - j, ⟨0, id, Nat.zero_le _, rfl, ⟨rfl, rfl, rfl, rfl, rfl, rfl, rfl, trivial⟩, ⟨rfl, rfl, trivial⟩⟩, fun j hj => ?_⟩
    dsimp only at hj
    conv => whnf
    (refine br_intro (fun h2 => ?_) (fun h2 => ?_) <;> (conv => whnf))
    · have h2 : j < (paL ds i).length := by simp at h2; omega
      have hr : 0 ≤ (paL ds i).getD (j : Int).toNat (RK.int .i64).z ∧ (paL ds i).getD (j : Int).toNat (RK.int .i64).z < W * H := paL_range hW hc h2
      have hL : (fo ctU (caS ds i) (paL ds i) j).length = ds.length := by rw [fo_ctU_len, caS_len]
      have hB := fo_bnd (p := paL ds i) hb j hj ((paL ds i).getD (j : Int).toNat (RK.int .i64).z).toNat
      have hpl : (paL ds i).length ≤ 257 := by
        obtain ⟨_, p3, p4, _⟩ := paM_spec hW hc
        rw [paL, tabN_len]; omega
      have hB' : 0 ≤ (fo ctU (caS ds i) (paL ds i) j).getD ((paL ds i).getD (j : Int).toNat (RK.int .i64).z).toNat (RK.int .i64).z ∧ (fo ctU (caS ds i) (paL ds i) j).getD ((paL ds i).getD (j : Int).toNat (RK.int .i64).z).toNat (RK.int .i64).z ≤ 100000 := by
        have e1 : (i : Int) * 257 ≤ 256 * 257 := by omega
        exact ⟨hB.1, Int.le_trans hB.2 (by omega)⟩
      have es := fo_succ ctU (caS ds i) h2 (0 : Int)
      repeat (first
        | (refine ⟨⟨by kernel_rfl, by kernel_rfl⟩, ?_⟩; conv => whnf)
        | (refine And.intro (by first | omega | (simp; done) | (simp; omega)) ?_; conv => whnf)
        | (refine Or.inl (And.intro (by omega) ?_); conv => whnf))
      refine ⟨j + 1, id, ⟨h2, by dsimp only; omega⟩, rfl, ⟨rfl, rfl, rfl, rfl, rfl, rfl, rfl, trivial⟩, ⟨congrArg (fun l => KS.live (Blk.tab (.int .i64) l)) es.symm, rfl, trivial⟩⟩
    · have h2 : j = (paL ds i).length := by simp at h2; omega
      subst h2
      have e : fo ctU (caS ds i) (paL ds i) (paL ds i).length = caS ds (i + 1) := by rw [fo_all]; rfl
      repeat (first
        | (refine ⟨⟨by kernel_rfl, by kernel_rfl⟩, ?_⟩; conv => whnf)
        | (refine And.intro (by first | omega | (simp; done) | (simp; omega)) ?_; conv => whnf)
        | (refine Or.inl (And.intro (by omega) ?_); conv => whnf))
      refine ⟨i + 1, id, ⟨h, by dsimp only; omega⟩, rfl, ⟨rfl, rfl, rfl, rfl, trivial⟩, ⟨congrArg (fun l => KS.live (Blk.tab (.int .i64) l)) e, trivial⟩⟩
  · have h : i = ds.length := by simp at h; omega
    subst h
    repeat (first
      | (refine ⟨⟨by kernel_rfl, by kernel_rfl⟩, ?_⟩; conv => whnf)
      | (refine And.intro (by first | omega | (simp; done) | (simp; omega)) ?_; conv => whnf)
      | (refine Or.inl (And.intro (by omega) ?_); conv => whnf))
    all_goals (try (conv => whnf))
    all_goals (repeat' (first | exact True.intro | (refine And.intro ?_ ?_ <;> (conv => whnf))))
    all_goals (first | rfl | (simp_all []; done) | (simp only [cond_true, cond_false, Bool.and_true, Bool.true_and, Bool.and_false, Bool.false_and]; rfl) | (simp_all []; omega))

noncomputable def lpS (ds : List Int) : Nat → List Int
  | 0 => []
  | i + 1 => bif decide (((paL ds i).length : Int) > (lpS ds i).length) then paL ds i else lpS ds i
theorem lpS_len {W H : Int} {ds : List Int} (hW : Wys W H ds) : ∀ i, i ≤ ds.length → (lpS ds i).length ≤ 257
  | 0, _ => Nat.zero_le _
  | i + 1, hi => by
    have hl := hW.2.1
    have hm := hW.2.2.1
    obtain ⟨_, p3, p4, _⟩ := paM_spec hW (c := i) (by omega)
    have hpl : (paL ds i).length ≤ 257 := by rw [paL, tabN_len]; omega
    rw [lpS]
    cases decide (((paL ds i).length : Int) > (lpS ds i).length)
    · exact lpS_len hW i (by omega)
    · exact hpl
theorem lpS_one {W H : Int} {ds : List Int} (hW : Wys W H ds) (h : 0 < ds.length) : lpS ds 1 = paL ds 0 := by
  have hl := hW.2.1
  obtain ⟨_, p3, _, _⟩ := paM_spec hW (c := 0) (by omega)
  show (bif decide (((paL ds ((0 : Nat) : Int)).length : Int) > (([] : List Int).length : Nat)) then paL ds ((0 : Nat) : Int) else []) = _
  rw [decide_eq_true (by rw [show ((0 : Nat) : Int) = 0 from rfl, paL, tabN_len]; simp; omega)]; rfl
noncomputable def lpO (W H : Int) (xs : List Nat) (ds : List Int) : List Int := bif waysB W H xs ds then lpS ds ds.length else []
theorem lpO_len (W H : Int) (xs : List Nat) (ds : List Int) : (lpO W H xs ds).length ≤ 257 := by
  unfold lpO
  cases h : waysB W H xs ds
  · exact Nat.zero_le _
  · exact lpS_len (waysB_Wys h) _ (Nat.le_refl _)

theorem iLongest {W H : Int} {xs : List Nat} {ds : List Int} {t t2 : AV} (hn : xs.length ≤ 1048576) (hn' : ds.length ≤ 1048576) : Does Try.prog 34 [.agg [.int .i64 W, .int .i64 H, .sli .f32 xs t], .sli (.int .i64) ds t2] (.tup [.own 0 (.int .i64) (lpO W H xs ds), .bool (waysB W H xs ds)]) := by
  refine Does.of_awp (X := cx 30) Try.func34 rfl (by kernel_rfl) rfl (by simp [cx]) [400] rfl ?_
  conv => whnf
  repeat (first
    | (refine ⟨⟨by kernel_rfl, by kernel_rfl⟩, ?_⟩; conv => whnf)
    | (refine And.intro (by first | omega | (simp; done) | (simp; omega)) ?_; conv => whnf)
    | (refine Or.inl (And.intro (by omega) ?_); conv => whnf)
    | (refine Exists.intro _ (And.intro (iWaysB (by first | omega | (simp; done) | (simp; omega)) (by first | omega | (simp; done) | (simp; omega))) ?_); conv => whnf))
  (refine br_intro (fun g1 => ?_) (fun g1 => ?_) <;> (conv => whnf))
  · have g1 : waysB W H xs ds = false := by simpa using g1
    all_goals (try (conv => whnf))
    all_goals (repeat' (first | exact True.intro | (refine And.intro ?_ ?_ <;> (conv => whnf))))
    all_goals (first | rfl | (simp_all [lpO]; done) | (simp only [lpO, cond_true, cond_false, Bool.and_true, Bool.true_and, Bool.and_false, Bool.false_and]; rfl) | (simp_all [lpO]; omega))
  have g1 : waysB W H xs ds = true := by simpa using g1
  have hW := waysB_Wys g1
  have hl := hW.2.1
  have hm := hW.2.2.1
  have eO : lpO W H xs ds = lpS ds ds.length := by rw [lpO, g1]; rfl
  rw [g1, eO]
  clear eO g1
  repeat (first
    | (refine ⟨⟨by kernel_rfl, by kernel_rfl⟩, ?_⟩; conv => whnf)
    | (refine And.intro (by first | omega | (simp; done) | (simp; omega)) ?_; conv => whnf)
    | (refine Or.inl (And.intro (by omega) ?_); conv => whnf))
  refine ⟨Nat, fun i => i ≤ ds.length, fun i => [(1, .sli (.int .i64) ds t2), (6, .osl 400), (15, .int .i64 ds.length), (16, .int .i64 i)], fun i => [(400, .tab (.int .i64) (lpS ds i))], fun i => ds.length - i, ⟨0, ren [(400, 52)], Nat.zero_le _, rfl, ⟨rfl, rfl, rfl, rfl, trivial⟩, ⟨rfl, trivial⟩⟩, fun i hi => ?_⟩
  have hlen := lpS_len hW i hi
  conv => whnf
  (refine br_intro (fun h => ?_) (fun h => ?_) <;> (conv => whnf))
  · have h : i < ds.length := by simp at h; omega
    have hc : 0 ≤ (i : Int) ∧ (i : Int) < W * H := by omega
    repeat (first
      | (refine ⟨⟨by kernel_rfl, by kernel_rfl⟩, ?_⟩; conv => whnf)
      | (refine And.intro (by first | omega | (simp; done) | (simp; omega)) ?_; conv => whnf)
      | (refine Or.inl (And.intro (by omega) ?_); conv => whnf)
      | (refine Exists.intro _ (And.intro (iPath hW hc) ?_); conv => whnf))
    (refine br_intro (fun h2 => ?_) (fun h2 => ?_) <;> (conv => whnf))
    · have es : paL ds i = lpS ds (i + 1) := by rw [lpS, h2]; rfl
      repeat (first
        | (refine ⟨⟨by kernel_rfl, by kernel_rfl⟩, ?_⟩; conv => whnf)
        | (refine And.intro (by first | omega | (simp; done) | (simp; omega)) ?_; conv => whnf)
        | (refine Or.inl (And.intro (by omega) ?_); conv => whnf))
      refine ⟨i + 1, ren [(400, 84)], ⟨h, by dsimp only; omega⟩, rfl, ⟨rfl, rfl, rfl, rfl, trivial⟩, ⟨congrArg (fun l => KS.live (Blk.tab (.int .i64) l)) es, trivial⟩⟩
    · have es : lpS ds i = lpS ds (i + 1) := by rw [lpS, h2]; rfl
      repeat (first
        | (refine ⟨⟨by kernel_rfl, by kernel_rfl⟩, ?_⟩; conv => whnf)
        | (refine And.intro (by first | omega | (simp; done) | (simp; omega)) ?_; conv => whnf)
        | (refine Or.inl (And.intro (by omega) ?_); conv => whnf))
      refine ⟨i + 1, id, ⟨h, by dsimp only; omega⟩, rfl, ⟨rfl, rfl, rfl, rfl, trivial⟩, ⟨congrArg (fun l => KS.live (Blk.tab (.int .i64) l)) es, trivial⟩⟩
  · have h : i = ds.length := by simp at h; omega
    subst h
    repeat (first
      | (refine ⟨⟨by kernel_rfl, by kernel_rfl⟩, ?_⟩; conv => whnf)
      | (refine And.intro (by first | omega | (simp; done) | (simp; omega)) ?_; conv => whnf)
      | (refine Or.inl (And.intro (by omega) ?_); conv => whnf))
    all_goals (try (conv => whnf))
    all_goals (repeat' (first | exact True.intro | (refine And.intro ?_ ?_ <;> (conv => whnf))))
    all_goals (first | rfl | (simp_all []; done) | (simp only [cond_true, cond_false, Bool.and_true, Bool.true_and, Bool.and_false, Bool.false_and]; rfl) | (simp_all []; omega))

end Go.Proofs.Ytngmlbeafdaolaa
