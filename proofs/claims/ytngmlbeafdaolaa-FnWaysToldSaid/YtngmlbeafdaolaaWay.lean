/- What each function of this seat does (Way). Printed from templates of this seat's own. -/
import Derived.Test.YtngmlbeafdaolaaFal
namespace Go.Proofs.Ytngmlbeafdaolaa
open Go.Ax Go.Bx
set_option maxRecDepth 8000
set_option linter.unusedSimpArgs false
set_option linter.unusedVariables false
theorem allN_list {α : Type} (p : α → Bool) (l : List α) (d : α) : allN (fun j => p (l.getD j d)) l.length = l.all p := by
  rw [Bool.eq_iff_iff, allN_iff, List.all_eq_true]
  constructor
  · intro h x hx
    obtain ⟨j, hj, rfl⟩ := List.getElem_of_mem hx
    have := h j hj
    rwa [List.getD_eq_getElem?_getD, List.getElem?_eq_getElem hj] at this
  · intro h j hj
    exact h _ (getD_mem hj d)
def isBes (W H c d : Int) : Bool := (nbL W H c 8).any fun r => r.1 == d
theorem bes_mono {W H c d : Int} {k : Nat} (h : ((nbL W H c k).any fun r => r.1 == d) = true) : ∀ n, ((nbL W H c (k + n)).any fun r => r.1 == d) = true
  | 0 => h
  | n + 1 => by
    have := bes_mono h n
    show ((nbL W H c (k + n) ++ _).any fun r => r.1 == d) = true
    rw [List.any_append, this]; rfl

theorem iWay1 {r : Int × Nat} {d : Int} {t : AV} : Does Try.prog 52 [.agg [.int .i64 r.1, .flt .f32 r.2], .ref [.int .i64 d] t] (.bool (r.1 == d)) := by
  refine Does.of_awp (X := cx 8) Try.func52 rfl (by kernel_rfl) rfl (by simp [cx]) [] rfl ?_
  conv => whnf
  repeat (first
    | (refine ⟨⟨by kernel_rfl, by kernel_rfl⟩, ?_⟩; conv => whnf)
    | (refine And.intro (by first | omega | (simp; done) | (simp; omega)) ?_; conv => whnf)
    | (refine Or.inl (And.intro (by omega) ?_); conv => whnf))
  all_goals (try (conv => whnf))
  all_goals (repeat' (first | exact True.intro | (refine And.intro ?_ ?_ <;> (conv => whnf))))
  all_goals (first | rfl | (simp_all []; done) | (simp only [cond_true, cond_false, Bool.and_true, Bool.true_and, Bool.and_false, Bool.false_and]; rfl) | (simp_all []; omega))

theorem xIndexFuncN {xs : List (Int × Nat)} {t t' : AV} {d : Int} (hn : xs.length ≤ 1048576) :
    ∃ n : Int, Does Try.prog 80 [.sli .nb xs t, .fn 52 [.ref [.int .i64 d] t']] (.int .i64 n) ∧ decide (n ≥ 0) = !allN (fun j => !((xs.getD j RK.nb.z).1 == d)) xs.length := by
  by_cases hex : ∃ i, i < xs.length ∧ (!((xs.getD i RK.nb.z).1 == d)) = false ∧ allN (fun j => !((xs.getD j RK.nb.z).1 == d)) i = true
  · obtain ⟨k, hk, hpk, hak⟩ := hex
    refine ⟨k, ?_, by rw [allN_false hk hpk]; simp⟩
    refine Does.of_awp (X := cx 19) Try.func80 rfl (by kernel_rfl) rfl (by simp [cx]) [] rfl ?_
    conv => whnf
    refine ⟨Nat, fun i => i ≤ k, fun i => [(0, .sli .nb xs t), (1, .fn 52 [.ref [.int .i64 d] t']), (7, .int .i64 xs.length), (8, .int .i64 i)], fun _ => [], fun i => xs.length - i, ⟨0, id, Nat.zero_le _, rfl, ⟨rfl, rfl, rfl, rfl, trivial⟩, trivial⟩, fun i hi => ?_⟩
    conv => whnf
    (refine br_intro (fun h => ?_) (fun h => ?_) <;> (conv => whnf))
    · have h : i < xs.length := by simp at h; omega
      repeat (first
        | (refine ⟨⟨by kernel_rfl, by kernel_rfl⟩, ?_⟩; conv => whnf)
        | (refine And.intro (by first | omega | (simp; done) | (simp; omega)) ?_; conv => whnf)
        | (refine Or.inl (And.intro (by omega) ?_); conv => whnf)
        | (refine Exists.intro _ (And.intro (iWay1 (r := xs.getD i RK.nb.z)) ?_); conv => whnf))
      (refine br_intro (fun hs => ?_) (fun hs => ?_) <;> (conv => whnf))
      · have hs : ((xs.getD i RK.nb.z).1 == d) = true := hs
        have : ¬ i < k := fun hlt => by have := allN_iff.1 hak i hlt; simp only [hs] at this; cases this
        have : i = k := by omega
        subst this
        all_goals (try (conv => whnf))
        all_goals (repeat' (first | exact True.intro | (refine And.intro ?_ ?_ <;> (conv => whnf))))
        all_goals (first | rfl | (simp_all []; done) | (simp only [cond_true, cond_false, Bool.and_true, Bool.true_and, Bool.and_false, Bool.false_and]; rfl) | (simp_all []; omega))
      · have hs : ((xs.getD i RK.nb.z).1 == d) = false := hs
        have : i ≠ k := fun e => by subst e; rw [hs] at hpk; cases hpk
        repeat (first
          | (refine ⟨⟨by kernel_rfl, by kernel_rfl⟩, ?_⟩; conv => whnf)
          | (refine And.intro (by first | omega | (simp; done) | (simp; omega)) ?_; conv => whnf)
          | (refine Or.inl (And.intro (by omega) ?_); conv => whnf))
        refine ⟨i + 1, id, ⟨by omega, by dsimp only; omega⟩, rfl, ⟨rfl, rfl, rfl, rfl, trivial⟩, trivial⟩
    · exfalso; simp at h; omega
  · have hall : ∀ i, i ≤ xs.length → allN (fun j => !((xs.getD j RK.nb.z).1 == d)) i = true := by
      intro i
      induction i with
      | zero => intro _; rfl
      | succ i ih =>
        intro hi
        have ih := ih (by omega)
        rw [allN, ih, Bool.true_and]
        cases hp : (!((xs.getD i RK.nb.z).1 == d)) with
        | true => rfl
        | false => exact absurd ⟨i, by omega, hp, ih⟩ hex
    refine ⟨-1, ?_, by rw [hall _ (Nat.le_refl _)]; simp⟩
    refine Does.of_awp (X := cx 19) Try.func80 rfl (by kernel_rfl) rfl (by simp [cx]) [] rfl ?_
    conv => whnf
    refine ⟨Nat, fun i => i ≤ xs.length, fun i => [(0, .sli .nb xs t), (1, .fn 52 [.ref [.int .i64 d] t']), (7, .int .i64 xs.length), (8, .int .i64 i)], fun _ => [], fun i => xs.length - i, ⟨0, id, Nat.zero_le _, rfl, ⟨rfl, rfl, rfl, rfl, trivial⟩, trivial⟩, fun i hi => ?_⟩
    conv => whnf
    (refine br_intro (fun h => ?_) (fun h => ?_) <;> (conv => whnf))
    · have h : i < xs.length := by simp at h; omega
      repeat (first
        | (refine ⟨⟨by kernel_rfl, by kernel_rfl⟩, ?_⟩; conv => whnf)
        | (refine And.intro (by first | omega | (simp; done) | (simp; omega)) ?_; conv => whnf)
        | (refine Or.inl (And.intro (by omega) ?_); conv => whnf)
        | (refine Exists.intro _ (And.intro (iWay1 (r := xs.getD i RK.nb.z)) ?_); conv => whnf))
      (refine br_intro (fun hs => ?_) (fun hs => ?_) <;> (conv => whnf))
      · have hs : ((xs.getD i RK.nb.z).1 == d) = true := hs
        have := allN_iff.1 (hall _ (Nat.le_refl _)) i h
        simp only [hs] at this; cases this
      · repeat (first
          | (refine ⟨⟨by kernel_rfl, by kernel_rfl⟩, ?_⟩; conv => whnf)
          | (refine And.intro (by first | omega | (simp; done) | (simp; omega)) ?_; conv => whnf)
          | (refine Or.inl (And.intro (by omega) ?_); conv => whnf))
        refine ⟨i + 1, id, ⟨h, by dsimp only; omega⟩, rfl, ⟨rfl, rfl, rfl, rfl, trivial⟩, trivial⟩
theorem any_allN {xs : List (Int × Nat)} {d : Int} : (!allN (fun j => !((xs.getD j RK.nb.z).1 == d)) xs.length) = xs.any fun r => r.1 == d := by
  rw [allN_list (fun r : Int × Nat => !(r.1 == d)) xs RK.nb.z, ← List.not_any_eq_all_not, Bool.not_not]
theorem xContainsFuncN {xs : List (Int × Nat)} {t t' : AV} {d : Int} (hn : xs.length ≤ 1048576) :
    Does Try.prog 51 [.sli .nb xs t, .fn 52 [.ref [.int .i64 d] t']] (.bool (xs.any fun r => r.1 == d)) := by
  obtain ⟨n, h1, h2⟩ := xIndexFuncN (t := .sli .nb xs t) (t' := .ref [.int .i64 d] t') (d := d) hn
  rw [← any_allN, ← h2]
  clear h2
  refine Does.of_awp (X := cx 9) Try.func51 rfl (by kernel_rfl) rfl (by simp [cx]) [] rfl ?_
  conv => whnf
  repeat (first
    | (refine ⟨⟨by kernel_rfl, by kernel_rfl⟩, ?_⟩; conv => whnf)
    | (refine And.intro (by first | omega | (simp; done) | (simp; omega)) ?_; conv => whnf)
    | (refine Or.inl (And.intro (by omega) ?_); conv => whnf)
    | (refine Exists.intro _ (And.intro (h1) ?_); conv => whnf))
  all_goals (try (conv => whnf))
  all_goals (repeat' (first | exact True.intro | (refine And.intro ?_ ?_ <;> (conv => whnf))))
  all_goals (first | rfl | (simp_all []; done) | (simp only [cond_true, cond_false, Bool.and_true, Bool.true_and, Bool.and_false, Bool.false_and]; rfl) | (simp_all []; omega))

def wyCur (ds : List Int) (i : Int) : Nat → Int
  | 0 => i
  | n + 1 => bif decide (0 ≤ wyCur ds i n) then ds.getD (wyCur ds i n).toNat 0 else wyCur ds i n
def wyAc (ds : List Int) (i : Nat) : Bool := decide (wyCur ds i (ds.length + 1) < 0)
def wyBe (W H : Int) (ds : List Int) (i : Nat) : Bool := ds.getD i 0 == -1 || isBes W H i (ds.getD i 0)
def waysB (W H : Int) (xs : List Nat) (ds : List Int) : Bool := hillB W H xs && decide (ds.length = xs.length) && allN (wyBe W H ds) ds.length && allN (wyAc ds) ds.length
theorem wyCur_pos {ds : List Int} {i : Int} {n : Nat} (h : 0 ≤ wyCur ds i n) : wyCur ds i (n + 1) = ds.getD (wyCur ds i n).toNat 0 := by
  rw [wyCur, decide_eq_true h, cond_true]
theorem wyCur_stay {ds : List Int} {i : Int} {n : Nat} (h : wyCur ds i n < 0) : ∀ m, wyCur ds i (n + m) = wyCur ds i n
  | 0 => rfl
  | m + 1 => by
    show wyCur ds i (n + m + 1) = _
    rw [wyCur, wyCur_stay h m, decide_eq_false (by omega), cond_false]
theorem bes_range {W H c d : Int} (hW : 1 ≤ W) (h : isBes W H c d = true) : 0 ≤ d ∧ d < W * H := by
  unfold isBes at h
  rw [List.any_eq_true] at h
  obtain ⟨r, hr, e⟩ := h
  have := nbL_mem hW hr
  have e : r.1 = d := by simpa using e
  omega
theorem wyBe_range {W H : Int} {ds : List Int} (hW : 1 ≤ W) (h : allN (wyBe W H ds) ds.length = true) {i : Nat} (hi : i < ds.length) : ds.getD i 0 = -1 ∨ (0 ≤ ds.getD i 0 ∧ ds.getD i 0 < W * H) := by
  have := allN_iff.1 h i hi
  unfold wyBe at this
  rw [Bool.or_eq_true] at this
  rcases this with h | h
  · left; simpa using h
  · right; exact bes_range hW h
theorem wyCur_range {W H : Int} {ds : List Int} (hW : 1 ≤ W) (h : allN (wyBe W H ds) ds.length = true) (hl : (ds.length : Int) = W * H) {i : Nat} (hi : i < ds.length) : ∀ n, -1 ≤ wyCur ds i n ∧ wyCur ds i n < W * H
  | 0 => by show -1 ≤ (i : Int) ∧ (i : Int) < W * H; omega
  | n + 1 => by
    have ih := wyCur_range hW h hl hi n
    rw [wyCur]
    by_cases h0 : 0 ≤ wyCur ds i n
    · rw [decide_eq_true h0, cond_true]
      have := wyBe_range hW h (i := (wyCur ds i n).toNat) (by omega)
      omega
    · rw [decide_eq_false h0, cond_false]; exact ih

theorem iWaysB {W H : Int} {xs : List Nat} {ds : List Int} {t t2 : AV} (hn : xs.length ≤ 1048576) (hn' : ds.length ≤ 1048576) : Does Try.prog 22 [.agg [.int .i64 W, .int .i64 H, .sli .f32 xs t], .sli (.int .i64) ds t2] (.bool (waysB W H xs ds)) := by
  refine Does.of_awp (X := cx 58) Try.func22 rfl (by kernel_rfl) rfl (by simp [cx]) [] rfl ?_
  conv => whnf
  repeat (first
    | (refine ⟨⟨by kernel_rfl, by kernel_rfl⟩, ?_⟩; conv => whnf)
    | (refine And.intro (by first | omega | (simp; done) | (simp; omega)) ?_; conv => whnf)
    | (refine Or.inl (And.intro (by omega) ?_); conv => whnf)
    | (refine Exists.intro _ (And.intro (iIs (by first | omega | (simp; done) | (simp; omega))) ?_); conv => whnf))
  (refine br_intro (fun g1 => ?_) (fun g1 => ?_) <;> (conv => whnf))
  · have g1 : hillB W H xs = false := by simpa using g1
    all_goals (try (conv => whnf))
    all_goals (repeat' (first | exact True.intro | (refine And.intro ?_ ?_ <;> (conv => whnf))))
    all_goals (first | rfl | (simp_all [waysB]; done) | (simp only [waysB, cond_true, cond_false, Bool.and_true, Bool.true_and, Bool.and_false, Bool.false_and]; rfl) | (simp_all [waysB]; omega))
  have g1 : hillB W H xs = true := by simpa using g1
  repeat (first
    | (refine ⟨⟨by kernel_rfl, by kernel_rfl⟩, ?_⟩; conv => whnf)
    | (refine And.intro (by first | omega | (simp; done) | (simp; omega)) ?_; conv => whnf)
    | (refine Or.inl (And.intro (by omega) ?_); conv => whnf))
  (refine br_intro (fun g2 => ?_) (fun g2 => ?_) <;> (conv => whnf))
  · have g2 : ds.length ≠ xs.length := by simp at g2; omega
    all_goals (try (conv => whnf))
    all_goals (repeat' (first | exact True.intro | (refine And.intro ?_ ?_ <;> (conv => whnf))))
    all_goals (first | rfl | (simp_all [waysB]; done) | (simp only [waysB, cond_true, cond_false, Bool.and_true, Bool.true_and, Bool.and_false, Bool.false_and]; rfl) | (simp_all [waysB]; omega))
  have g2 : ds.length = xs.length := by simp at g2; omega
  obtain ⟨k1, k2, k3, k4, k5, k6, k7⟩ := hill_len g1
  have hl : (ds.length : Int) = W * H := by omega
  have eC : waysB W H xs ds = (allN (wyBe W H ds) ds.length && allN (wyAc ds) ds.length) := by rw [waysB, g1, decide_eq_true g2]; rfl
  clear g1
  rw [eC]
  clear eC
  repeat (first
    | (refine ⟨⟨by kernel_rfl, by kernel_rfl⟩, ?_⟩; conv => whnf)
    | (refine And.intro (by first | omega | (simp; done) | (simp; omega)) ?_; conv => whnf)
    | (refine Or.inl (And.intro (by omega) ?_); conv => whnf))
  refine ⟨Nat, fun i => i ≤ ds.length ∧ allN (wyBe W H ds) i = true, fun i => [(1, .sli (.int .i64) ds t2), (2, .loc 8 0), (21, .sli (.int .i64) ds t2), (22, .int .i64 ds.length), (23, .int .i64 i)], fun _ => [(8, .av [.int .i64 W, .int .i64 H, .sli .f32 xs t])], fun i => ds.length - i, ⟨0, id, ⟨Nat.zero_le _, rfl⟩, rfl, ⟨rfl, rfl, rfl, rfl, rfl, trivial⟩, ⟨rfl, trivial⟩⟩, fun i hi => ?_⟩
  obtain ⟨hi, hA⟩ := hi
  conv => whnf
  repeat (first
    | (refine ⟨⟨by kernel_rfl, by kernel_rfl⟩, ?_⟩; conv => whnf)
    | (refine And.intro (by first | omega | (simp; done) | (simp; omega)) ?_; conv => whnf)
    | (refine Or.inl (And.intro (by omega) ?_); conv => whnf))
  (refine br_intro (fun h => ?_) (fun h => ?_) <;> (conv => whnf))
  · have h : i < ds.length := by simp at h; omega
    have hC : Cel W H i := ⟨⟨k1, k2, k3, k4⟩, by omega, by omega⟩
    have hlen := nbL_len W H i 8
    repeat (first
      | (refine ⟨⟨by kernel_rfl, by kernel_rfl⟩, ?_⟩; conv => whnf)
      | (refine And.intro (by first | omega | (simp; done) | (simp; omega)) ?_; conv => whnf)
      | (refine Or.inl (And.intro (by omega) ?_); conv => whnf))
    (refine br_intro (fun h2 => ?_) (fun h2 => ?_) <;> (conv => whnf))
    · have h2 : (ds.getD i 0 != -1) = true := h2
      have e : ∀ t t', Does Try.prog 51 [.sli .nb (nbL W H i 8) t, .fn 52 [.ref [.int .i64 (ds.getD i 0)] t']] (.bool (isBes W H i (ds.getD i 0))) := fun t t' => xContainsFuncN (by omega)
      repeat (first
        | (refine ⟨⟨by kernel_rfl, by kernel_rfl⟩, ?_⟩; conv => whnf)
        | (refine And.intro (by first | omega | (simp; done) | (simp; omega)) ?_; conv => whnf)
        | (refine Or.inl (And.intro (by omega) ?_); conv => whnf)
        | (refine Exists.intro _ (And.intro (iNbrs hC) ?_); conv => whnf)
        | (refine Exists.intro _ (And.intro (e _ _) ?_); conv => whnf))
      (refine br_intro (fun h3 => ?_) (fun h3 => ?_) <;> (conv => whnf))
      · have h3 : isBes W H i (ds.getD i 0) = false := by simpa using h3
        have hF := allN_false (p := wyBe W H ds) h (by unfold wyBe; rw [h3, Bool.or_false]; simpa using h2)
        rw [hF]
        clear hA hF
        all_goals (try (conv => whnf))
        all_goals (repeat' (first | exact True.intro | (refine And.intro ?_ ?_ <;> (conv => whnf))))
        all_goals (first | rfl | (simp_all []; done) | (simp only [cond_true, cond_false, Bool.and_true, Bool.true_and, Bool.and_false, Bool.false_and]; rfl) | (simp_all []; omega))
      · have h3 : isBes W H i (ds.getD i 0) = true := by simpa using h3
        repeat (first
          | (refine ⟨⟨by kernel_rfl, by kernel_rfl⟩, ?_⟩; conv => whnf)
          | (refine And.intro (by first | omega | (simp; done) | (simp; omega)) ?_; conv => whnf)
          | (refine Or.inl (And.intro (by omega) ?_); conv => whnf))
        refine ⟨i + 1, id, ⟨⟨h, by simp only [allN, hA, Bool.true_and]; unfold wyBe; rw [h3, Bool.or_true]⟩, by dsimp only; omega⟩, rfl, ⟨rfl, rfl, rfl, rfl, rfl, trivial⟩, ⟨rfl, trivial⟩⟩
    · have h2 : (ds.getD i 0 != -1) = false := h2
      repeat (first
        | (refine ⟨⟨by kernel_rfl, by kernel_rfl⟩, ?_⟩; conv => whnf)
        | (refine And.intro (by first | omega | (simp; done) | (simp; omega)) ?_; conv => whnf)
        | (refine Or.inl (And.intro (by omega) ?_); conv => whnf))
      refine ⟨i + 1, id, ⟨⟨h, by simp only [allN, hA, Bool.true_and]; unfold wyBe; rw [show (ds.getD i 0 == -1) = true by simpa using h2, Bool.true_or]⟩, by dsimp only; omega⟩, rfl, ⟨rfl, rfl, rfl, rfl, rfl, trivial⟩, ⟨rfl, trivial⟩⟩
  · have h : i = ds.length := by simp at h; omega
    subst h
    rw [hA, Bool.true_and]
    repeat (first
      | (refine ⟨⟨by kernel_rfl, by kernel_rfl⟩, ?_⟩; conv => whnf)
      | (refine And.intro (by first | omega | (simp; done) | (simp; omega)) ?_; conv => whnf)
      | (refine Or.inl (And.intro (by omega) ?_); conv => whnf))
    refine ⟨Nat, fun i => i ≤ ds.length ∧ allN (wyAc ds) i = true, fun i => [(1, .sli (.int .i64) ds t2), (40, .int .i64 ds.length), (41, .int .i64 i)], fun _ => [], fun i => ds.length - i, ⟨0, id, ⟨Nat.zero_le _, rfl⟩, rfl, ⟨rfl, rfl, rfl, trivial⟩, trivial⟩, fun i hi => ?_⟩
    obtain ⟨hi, hB⟩ := hi
    conv => whnf
    (refine br_intro (fun h => ?_) (fun h => ?_) <;> (conv => whnf))
    · have h : i < ds.length := by simp at h; omega
      repeat (first
        | (refine ⟨⟨by kernel_rfl, by kernel_rfl⟩, ?_⟩; conv => whnf)
        | (refine And.intro (by first | omega | (simp; done) | (simp; omega)) ?_; conv => whnf)
        | (refine Or.inl (And.intro (by omega) ?_); conv => whnf))
      refine ⟨Nat, fun n => n ≤ ds.length + 1, fun n => [(1, .sli (.int .i64) ds t2), (8, .int .i64 (wyCur ds i n)), (9, .int .i64 n), (40, .int .i64 ds.length), (41, .int .i64 i)], fun _ => [], fun n => ds.length + 2 - n, ⟨0, id, Nat.zero_le _, rfl, ⟨rfl, rfl, rfl, rfl, rfl, trivial⟩, trivial⟩, fun n hn2 => ?_⟩
      have hr := wyCur_range k1 hA hl h n
      conv => whnf
      (refine br_intro (fun h2 => ?_) (fun h2 => ?_) <;> (conv => whnf))
      · have h2 : 0 ≤ wyCur ds i n := by simp at h2; omega
        repeat (first
          | (refine ⟨⟨by kernel_rfl, by kernel_rfl⟩, ?_⟩; conv => whnf)
          | (refine And.intro (by first | omega | (simp; done) | (simp; omega)) ?_; conv => whnf)
          | (refine Or.inl (And.intro (by omega) ?_); conv => whnf))
        (refine br_intro (fun h3 => ?_) (fun h3 => ?_) <;> (conv => whnf))
        · have h3 : n = ds.length + 1 := by simp at h3; dsimp only at hn2; omega
          subst h3
          have hF := allN_false (p := wyAc ds) h (by unfold wyAc; exact decide_eq_false (by omega))
          rw [hF]
        · have h3 : n ≤ ds.length := by simp at h3; omega
          repeat (first
            | (refine ⟨⟨by kernel_rfl, by kernel_rfl⟩, ?_⟩; conv => whnf)
            | (refine And.intro (by first | omega | (simp; done) | (simp; omega)) ?_; conv => whnf)
            | (refine Or.inl (And.intro (by omega) ?_); conv => whnf))
          refine ⟨n + 1, id, ⟨by dsimp only; omega, by dsimp only; omega⟩, rfl, ⟨rfl, congrArg (AV.int .i64) (wyCur_pos h2).symm, rfl, rfl, rfl, trivial⟩, trivial⟩
      · have h2 : wyCur ds i n < 0 := by simp at h2; omega
        have hAc : wyAc ds i = true := by
          unfold wyAc
          have := wyCur_stay h2 (ds.length + 1 - n)
          rw [show n + (ds.length + 1 - n) = ds.length + 1 by dsimp only at hn2; omega] at this
          rw [this]; exact decide_eq_true h2
        repeat (first
          | (refine ⟨⟨by kernel_rfl, by kernel_rfl⟩, ?_⟩; conv => whnf)
          | (refine And.intro (by first | omega | (simp; done) | (simp; omega)) ?_; conv => whnf)
          | (refine Or.inl (And.intro (by omega) ?_); conv => whnf))
        refine ⟨i + 1, id, ⟨⟨h, by simp only [allN, hB, Bool.true_and]; exact hAc⟩, by dsimp only; omega⟩, rfl, ⟨rfl, rfl, rfl, trivial⟩, trivial⟩
    · have h : i = ds.length := by simp at h; omega
      subst h
      rw [hB]

end Go.Proofs.Ytngmlbeafdaolaa
