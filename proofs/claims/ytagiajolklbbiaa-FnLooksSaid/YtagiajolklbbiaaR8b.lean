/- What each function of this seat does (R8b). Printed from templates of this seat's own. -/
import Derived.Test.YtagiajolklbbiaaR8
namespace Go.Proofs.Ytagiajolklbbiaa
open Go.Ax Go.Bx
set_option maxRecDepth 8000
set_option linter.unusedSimpArgs false
set_option linter.unusedVariables false
/-- Numbers drawn one after another, each below n. -/
noncomputable def drS (bs : List Int) (n : Int) : Nat → Nat × Int
  | 0 => (0, 0)
  | i + 1 => ((pk bs (drS bs n i).1 (drS bs n i).2 n).2.1, (pk bs (drS bs n i).1 (drS bs n i).2 n).2.2)
noncomputable def drN (bs : List Int) (n : Int) (i : Nat) : Int := (pk bs (drS bs n i).1 (drS bs n i).2 n).1
theorem drS_bound {bs : List Int} {n : Int} (hb : Byt bs) (hn : n ≤ 65536) : ∀ i : Nat, i ≤ 1048576 → (drS bs n i).1 ≤ 2 * i
  | 0, _ => Nat.le_refl _
  | i + 1, h => by
    have h1 := drS_bound hb hn i (by omega)
    have := (pk_bound (p := (drS bs n i).1) (s := (drS bs n i).2) hb (by omega) hn).1
    simp only [drS]; omega
theorem drN_bound {bs : List Int} {n : Int} (hb : Byt bs) (hn : n ≤ 65536) (h0 : 0 < n) {i : Nat} (hi : i ≤ 1048576) : 0 ≤ drN bs n i ∧ drN bs n i < n := by
  have h1 := drS_bound hb hn i hi
  have := pk_bound (p := (drS bs n i).1) (s := (drS bs n i).2) (n := n) hb (by omega) hn
  exact ⟨this.2.1, this.2.2 h0⟩
noncomputable def rnW (bs : List Int) (i : Nat) : Nat := fop .quo .f32 (foi .f32 (drN bs 9 i)) (canon .f32 1082130432)

theorem nott {b : Bool} (h : (!b) = true) : b = false := by cases b <;> simp at h ⊢
theorem notf {b : Bool} (h : (!b) = false) : b = true := by cases b <;> simp at h ⊢
def sb (a b : Nat) : Bool := bitsI a == bitsI b

theorem iSameNum {a b : Nat} : Does Try.prog 50 [.flt .f32 a, .flt .f32 b] (.bool (sameN a b)) := by
  refine Does.of_awp (X := cx 33) Try.func50 rfl (by kernel_rfl) rfl (by simp [cx]) [] rfl ?_
  conv => whnf
  repeat (first
    | (refine ⟨⟨by kernel_rfl, by kernel_rfl⟩, ?_⟩; conv => whnf)
    | (refine And.intro (by first | omega | (simp; done) | (simp; omega)) ?_; conv => whnf)
    | (refine Or.inl (And.intro (by omega) ?_); conv => whnf))
  (refine br_intro (fun h1 => ?_) (fun h1 => ?_) <;> (conv => whnf))
  · repeat (first
      | (refine ⟨⟨by kernel_rfl, by kernel_rfl⟩, ?_⟩; conv => whnf)
      | (refine And.intro (by first | omega | (simp; done) | (simp; omega)) ?_; conv => whnf)
      | (refine Or.inl (And.intro (by omega) ?_); conv => whnf))
    (refine br_intro (fun h2 => ?_) (fun h2 => ?_) <;> (conv => whnf))
    · all_goals (try (conv => whnf))
      all_goals (repeat' (first | exact True.intro | (refine And.intro ?_ ?_ <;> (conv => whnf))))
      all_goals (first | rfl | (simp_all [sameN]; done) | (simp only [sameN, cond_true, cond_false, Bool.and_true, Bool.true_and, Bool.and_false, Bool.false_and]; rfl) | (simp_all [sameN]; omega))
    · rw [h1] at h2; cases h2
  · repeat (first
      | (refine ⟨⟨by kernel_rfl, by kernel_rfl⟩, ?_⟩; conv => whnf)
      | (refine And.intro (by first | omega | (simp; done) | (simp; omega)) ?_; conv => whnf)
      | (refine Or.inl (And.intro (by omega) ?_); conv => whnf))
    (refine br_intro (fun h2 => ?_) (fun h2 => ?_) <;> (conv => whnf))
    · repeat (first
        | (refine ⟨⟨by kernel_rfl, by kernel_rfl⟩, ?_⟩; conv => whnf)
        | (refine And.intro (by first | omega | (simp; done) | (simp; omega)) ?_; conv => whnf)
        | (refine Or.inl (And.intro (by omega) ?_); conv => whnf))
      (refine br_intro (fun h3 => ?_) (fun h3 => ?_) <;> (conv => whnf))
      · rw [h1] at h3; cases h3
      · all_goals (try (conv => whnf))
        all_goals (repeat' (first | exact True.intro | (refine And.intro ?_ ?_ <;> (conv => whnf))))
        all_goals (first | rfl | (simp_all [sameN]; done) | (simp only [sameN, cond_true, cond_false, Bool.and_true, Bool.true_and, Bool.and_false, Bool.false_and]; rfl) | (simp_all [sameN]; omega))
    · have n1 : isNaN .f64 (fwiden a) = false := by rw [isNaN_widen, ← neq_self]; exact h1
      have n2 : isNaN .f64 (fwiden b) = false := by rw [isNaN_widen, ← neq_self]; exact h2
      repeat (first
        | (refine ⟨⟨by kernel_rfl, by kernel_rfl⟩, ?_⟩; conv => whnf)
        | (refine And.intro (by first | omega | (simp; done) | (simp; omega)) ?_; conv => whnf)
        | (refine Or.inl (And.intro (by omega) ?_); conv => whnf))
      (refine br_intro (fun h3 => ?_) (fun h3 => ?_) <;> (conv => whnf))
      · repeat (first
          | (refine ⟨⟨by kernel_rfl, by kernel_rfl⟩, ?_⟩; conv => whnf)
          | (refine And.intro (by first | omega | (simp; done) | (simp; omega)) ?_; conv => whnf)
          | (refine Or.inl (And.intro (by omega) ?_); conv => whnf)
          | (refine Exists.intro _ (And.intro (xSignbit n1) ?_); conv => whnf)
          | (refine Exists.intro _ (And.intro (xSignbit n2) ?_); conv => whnf))
        all_goals (try (conv => whnf))
        all_goals (repeat' (first | exact True.intro | (refine And.intro ?_ ?_ <;> (conv => whnf))))
        all_goals (first | rfl | (simp_all [sameN]; done) | (simp only [sameN, cond_true, cond_false, Bool.and_true, Bool.true_and, Bool.and_false, Bool.false_and]; rfl) | (simp_all [sameN]; omega))
      · all_goals (try (conv => whnf))
        all_goals (repeat' (first | exact True.intro | (refine And.intro ?_ ?_ <;> (conv => whnf))))
        all_goals (first | rfl | (simp_all [sameN]; done) | (simp only [sameN, cond_true, cond_false, Bool.and_true, Bool.true_and, Bool.and_false, Bool.false_and]; rfl) | (simp_all [sameN]; omega))
theorem iSameNum' {a b : Nat} (ha : a < 2 ^ 32) (hb : b < 2 ^ 32) : Does Try.prog 50 [.flt .f32 a, .flt .f32 b] (.bool (sb a b)) := by
  have := iSameNum (a := a) (b := b)
  rwa [sameN_eq ha hb] at this

def sbL (xs ys : List Nat) : Bool := decide (xs.length = ys.length) && allN (fun i => sb (xs.getD i 0) (ys.getD i 0)) xs.length
theorem W1_at {xs : List Nat} (h : ∀ y ∈ xs, y < 2 ^ 32) {i : Nat} (hi : i < xs.length) : xs.getD i 0 < 2 ^ 32 := by
  apply h
  rw [List.getD_eq_getElem?_getD, List.getElem?_eq_getElem hi]
  exact List.getElem_mem _
theorem xEqualF {xs ys : List Nat} {t t' : AV} (hn : xs.length ≤ 1048576) (hx : ∀ y ∈ xs, y < 2 ^ 32) (hy : ∀ y ∈ ys, y < 2 ^ 32) : Does Try.prog 49 [.sli .f32 xs t, .sli .f32 ys t', .fn 50 []] (.bool (sbL xs ys)) := by
  refine Does.of_awp (X := cx 32) Try.func49 rfl (by kernel_rfl) rfl (by simp [cx]) [] rfl ?_
  conv => whnf
  repeat (first
    | (refine ⟨⟨by kernel_rfl, by kernel_rfl⟩, ?_⟩; conv => whnf)
    | (refine And.intro (by first | omega | (simp; done) | (simp; omega)) ?_; conv => whnf)
    | (refine Or.inl (And.intro (by omega) ?_); conv => whnf))
  (refine br_intro (fun h0 => ?_) (fun h0 => ?_) <;> (conv => whnf))
  · have h0 : ¬ xs.length = ys.length := by simp at h0; omega
    all_goals (try (conv => whnf))
    all_goals (repeat' (first | exact True.intro | (refine And.intro ?_ ?_ <;> (conv => whnf))))
    all_goals (first | rfl | (simp_all [sbL]; done) | (simp only [sbL, cond_true, cond_false, Bool.and_true, Bool.true_and, Bool.and_false, Bool.false_and]; rfl) | (simp_all [sbL]; omega))
  have h0 : xs.length = ys.length := by simp at h0; omega
  have eL : sbL xs ys = allN (fun i => sb (xs.getD i 0) (ys.getD i 0)) xs.length := by rw [sbL, decide_eq_true h0]; rfl
  rw [eL]
  clear eL
  repeat (first
    | (refine ⟨⟨by kernel_rfl, by kernel_rfl⟩, ?_⟩; conv => whnf)
    | (refine And.intro (by first | omega | (simp; done) | (simp; omega)) ?_; conv => whnf)
    | (refine Or.inl (And.intro (by omega) ?_); conv => whnf))
  refine ⟨Nat, fun i => i ≤ xs.length ∧ allN (fun i => sb (xs.getD i 0) (ys.getD i 0)) i = true, fun i => [(1, .sli .f32 ys t'), (2, .fn 50 []), (15, .sli .f32 xs t), (16, .int .i64 xs.length), (17, .int .i64 i)], fun _ => [], fun i => xs.length - i, ⟨0, id, ⟨Nat.zero_le _, rfl⟩, rfl, ⟨rfl, rfl, rfl, rfl, rfl, trivial⟩, trivial⟩, fun i hi => ?_⟩
  obtain ⟨hi, hA⟩ := hi
  conv => whnf
  (refine br_intro (fun h => ?_) (fun h => ?_) <;> (conv => whnf))
  · have h : i < xs.length := by simp at h; omega
    have h' : i < ys.length := by omega
    repeat (first
      | (refine ⟨⟨by kernel_rfl, by kernel_rfl⟩, ?_⟩; conv => whnf)
      | (refine And.intro (by first | omega | (simp; done) | (simp; omega)) ?_; conv => whnf)
      | (refine Or.inl (And.intro (by omega) ?_); conv => whnf)
      | (refine Exists.intro _ (And.intro (iSameNum' (W1_at hx h) (W1_at hy h')) ?_); conv => whnf))
    (refine br_intro (fun hs => ?_) (fun hs => ?_) <;> (conv => whnf))
    · have hs : sb (xs.getD i 0) (ys.getD i 0) = false := nott hs
      have := allN_false (p := fun i => sb (xs.getD i 0) (ys.getD i 0)) h hs
      rw [this]
    · have hs : sb (xs.getD i 0) (ys.getD i 0) = true := notf hs
      repeat (first
        | (refine ⟨⟨by kernel_rfl, by kernel_rfl⟩, ?_⟩; conv => whnf)
        | (refine And.intro (by first | omega | (simp; done) | (simp; omega)) ?_; conv => whnf)
        | (refine Or.inl (And.intro (by omega) ?_); conv => whnf))
      refine ⟨i + 1, id, ⟨⟨h, by simp only [allN, hA, Bool.true_and]; exact hs⟩, by dsimp only; omega⟩, rfl, ⟨rfl, rfl, rfl, rfl, rfl, trivial⟩, trivial⟩
  · have h : i = xs.length := by simp at h; omega
    subst h
    rw [hA]

theorem iSameNums {xs ys : List Nat} {t t' : AV} (hn : xs.length ≤ 1048576) (hx : ∀ y ∈ xs, y < 2 ^ 32) (hy : ∀ y ∈ ys, y < 2 ^ 32) : Does Try.prog 32 [.sli .f32 xs t, .sli .f32 ys t'] (.bool (sbL xs ys)) := by
  refine Does.of_awp (X := cx 8) Try.func32 rfl (by kernel_rfl) rfl (by simp [cx]) [] rfl ?_
  conv => whnf
  repeat (first
    | (refine ⟨⟨by kernel_rfl, by kernel_rfl⟩, ?_⟩; conv => whnf)
    | (refine And.intro (by first | omega | (simp; done) | (simp; omega)) ?_; conv => whnf)
    | (refine Or.inl (And.intro (by omega) ?_); conv => whnf)
    | (refine Exists.intro _ (And.intro (xEqualF hn hx hy) ?_); conv => whnf))
  all_goals (try (conv => whnf))
  all_goals (repeat' (first | exact True.intro | (refine And.intro ?_ ?_ <;> (conv => whnf))))
  all_goals (first | rfl | (simp_all []; done) | (simp only [cond_true, cond_false, Bool.and_true, Bool.true_and, Bool.and_false, Bool.false_and]; rfl) | (simp_all []; omega))


theorem lR8Long {bs cs : List Int} {t t' : AV} (h1 : bs.length < 2 ^ 63) (h2 : cs.length < 2 ^ 63) : Does Try.prog 4 [.sli (.int .u8) bs t, .sli (.int .u8) cs t'] (.bool (decide (48 < bs.length) || decide (48 < cs.length))) := by
  refine Does.of_awp (X := cx 13) Try.func4 rfl (by kernel_rfl) rfl (by simp [cx]) [] rfl ?_
  conv => whnf
  repeat (first
    | (refine ⟨⟨by kernel_rfl, by kernel_rfl⟩, ?_⟩; conv => whnf)
    | (refine And.intro (by first | omega | (simp; done) | (simp; omega)) ?_; conv => whnf)
    | (refine Or.inl (And.intro (by omega) ?_); conv => whnf))
  (refine br_intro (fun h => ?_) (fun h => ?_) <;> (conv => whnf))
  · have h : 48 < bs.length := by simp at h; omega
    rw [decide_eq_true h]
    repeat (first
      | (refine ⟨⟨by kernel_rfl, by kernel_rfl⟩, ?_⟩; conv => whnf)
      | (refine And.intro (by first | omega | (simp; done) | (simp; omega)) ?_; conv => whnf)
      | (refine Or.inl (And.intro (by omega) ?_); conv => whnf))
    all_goals (first | rfl | trivial)
  · have h : ¬ 48 < bs.length := by simp at h; omega
    rw [decide_eq_false h, Bool.false_or]
    repeat (first
      | (refine ⟨⟨by kernel_rfl, by kernel_rfl⟩, ?_⟩; conv => whnf)
      | (refine And.intro (by first | omega | (simp; done) | (simp; omega)) ?_; conv => whnf)
      | (refine Or.inl (And.intro (by omega) ?_); conv => whnf))
    by_cases h3 : 48 < cs.length
    · rw [decide_eq_true h3, show decide ((cs.length : Int) > 48) = true from decide_eq_true (by omega)]
    · rw [decide_eq_false h3, show decide ((cs.length : Int) > 48) = false from decide_eq_false (by omega)]

noncomputable def r8V (bs : List Int) (k : Nat) (n : Int) : Int := bif decide (n ≤ 1) || decide (bs.length ≤ k) then 0 else bs.getD k 0 % n
theorem r8V_bound {bs : List Int} (k : Nat) {n : Int} (hn : 0 < n) : 0 ≤ r8V bs k n ∧ r8V bs k n < n := by
  unfold r8V
  cases h : decide (n ≤ 1) || decide (bs.length ≤ k)
  · exact ⟨Int.emod_nonneg _ (by omega), Int.emod_lt_of_pos _ (by omega)⟩
  · exact ⟨Int.le_refl _, hn⟩
theorem lR8At {bs : List Int} {t : AV} {k : Nat} {n : Int} (hb : Byt bs) (hk : k ≤ 1099511627776) : Does Try.prog 12 [.sli (.int .u8) bs t, .int .i64 k, .int .i64 n] (.int .i64 (r8V bs k n)) := by
  have hl := hb.len
  refine Does.of_awp (X := cx 22) Try.func12 rfl (by kernel_rfl) rfl (by simp [cx]) [] rfl ?_
  conv => whnf
  repeat (first
    | (refine ⟨⟨by kernel_rfl, by kernel_rfl⟩, ?_⟩; conv => whnf)
    | (refine And.intro (by first | omega | (simp; done) | (simp; omega)) ?_; conv => whnf)
    | (refine Or.inl (And.intro (by omega) ?_); conv => whnf))
  (refine br_intro (fun h => ?_) (fun h => ?_) <;> (conv => whnf))
  · have e : r8V bs k n = 0 := by unfold r8V; rw [decide_eq_true (show n ≤ 1 by simpa using h), Bool.true_or, cond_true]
    rw [e]
    repeat (first
      | (refine ⟨⟨by kernel_rfl, by kernel_rfl⟩, ?_⟩; conv => whnf)
      | (refine And.intro (by first | omega | (simp; done) | (simp; omega)) ?_; conv => whnf)
      | (refine Or.inl (And.intro (by omega) ?_); conv => whnf))
    all_goals (first | rfl | trivial)
  · have h0 : ¬ n ≤ 1 := by simp at h; omega
    repeat (first
      | (refine ⟨⟨by kernel_rfl, by kernel_rfl⟩, ?_⟩; conv => whnf)
      | (refine And.intro (by first | omega | (simp; done) | (simp; omega)) ?_; conv => whnf)
      | (refine Or.inl (And.intro (by omega) ?_); conv => whnf))
    (refine br_intro (fun h1 => ?_) (fun h1 => ?_) <;> (conv => whnf))
    · have h1 : bs.length ≤ k := by simp at h1; omega
      have e : r8V bs k n = 0 := by unfold r8V; rw [decide_eq_true h1, Bool.or_true, cond_true]
      rw [e]
      repeat (first
        | (refine ⟨⟨by kernel_rfl, by kernel_rfl⟩, ?_⟩; conv => whnf)
        | (refine And.intro (by first | omega | (simp; done) | (simp; omega)) ?_; conv => whnf)
        | (refine Or.inl (And.intro (by omega) ?_); conv => whnf))
      all_goals (first | rfl | trivial)
    · have h1 : ¬ bs.length ≤ k := by simp at h1; omega
      have b : 0 ≤ bs.getD k 0 ∧ bs.getD k 0 < 256 := by
        rw [List.getD_eq_getElem?_getD, List.getElem?_eq_getElem (by omega)]
        exact hb.val _ (List.getElem_mem _)
      have b2 := b
      simp only [List.getD_eq_getElem?_getD] at b2
      have e : r8V bs k n = bs.getD k 0 % n := by unfold r8V; rw [decide_eq_false h0, decide_eq_false h1, Bool.false_or, cond_false]
      rw [e]
      have b0 : (0 : Int) ≤ bs.getD ((k : Int)).toNat (RK.int IntKind.u8).z := b.1
      repeat (first
        | (refine ⟨⟨by kernel_rfl, by kernel_rfl⟩, ?_⟩; conv => whnf)
        | (refine And.intro (by first | omega | (simp; done) | (simp; omega)) ?_; conv => whnf)
        | (refine Or.inl (And.intro (by omega) ?_); conv => whnf))
      all_goals (first | rfl | trivial)

theorem iSameHill {W H : Int} {xs : List Nat} {t t' : AV} (hn : xs.length ≤ 1048576) (hw : ∀ y ∈ xs, y < 2 ^ 32) : Does Try.prog 11 [.agg [.int .i64 W, .int .i64 H, .sli .f32 xs t], .agg [.int .i64 W, .int .i64 H, .sli .f32 xs t']] (.bool true) := by
  have e : ∀ t t', Does Try.prog 32 [.sli .f32 xs t, .sli .f32 xs t'] (.bool true) := fun t t' => by
    have := iSameNums (t := t) (t' := t') hn hw hw
    rwa [show sbL xs xs = true by unfold sbL; rw [decide_eq_true rfl, Bool.true_and]; exact allN_iff.2 fun i _ => by unfold sb; simp] at this
  refine Does.of_awp (X := cx 24) Try.func11 rfl (by kernel_rfl) rfl (by simp [cx]) [] rfl ?_
  conv => whnf
  repeat' (first
    | (refine br_intro (fun h => ?_) (fun h => ?_) <;> (conv => whnf))
    | (refine ⟨⟨by kernel_rfl, by kernel_rfl⟩, ?_⟩; conv => whnf)
    | (refine And.intro (by first | omega | (simp; done) | (simp; omega)) ?_; conv => whnf)
    | (refine Or.inl (And.intro (by omega) ?_); conv => whnf)
    | (refine Exists.intro _ (And.intro (e _ _) ?_); conv => whnf))
  all_goals (first | rfl | trivial | (simp_all; done))

end Go.Proofs.Ytagiajolklbbiaa
