/- What each function of this seat does (Drw). Printed from templates of this seat's own. -/
import Derived.Test.YtnepjbnoaemmdaaMrk
import Derived.Test.YtnepjbnoaemmdaaSrc
namespace Go.Proofs.Ytnepjbnoaemmdaa
open Go.Ax Go.Bx
set_option maxRecDepth 8000
set_option linter.unusedSimpArgs false
set_option linter.unusedVariables false
/-- Numbers drawn one after another, each below n. -/
noncomputable def drS (bs : List Int) (n : Int) : Nat → Nat × Int
  | 0 => (0, 0)
  | i + 1 => ((pk bs (drS bs n i).1 (drS bs n i).2 n).2.1, (pk bs (drS bs n i).1 (drS bs n i).2 n).2.2)
noncomputable def drN (bs : List Int) (n : Int) (i : Nat) : Int := (pk bs (drS bs n i).1 (drS bs n i).2 n).1
theorem drS_bound {bs : List Int} {n : Int} (hb : Byt bs) (hn : n ≤ 65536) : ∀ i : Nat, i ≤ 1048576 → (drS bs n i).1 ≤ 2 * i
  | 0, _ => Nat.le_refl _
  | i + 1, h => by
    have h1 := drS_bound hb hn i (by omega)
    have := (pk_bound (p := (drS bs n i).1) (s := (drS bs n i).2) hb (by omega) hn).1
    simp only [drS]; omega
theorem drN_bound {bs : List Int} {n : Int} (hb : Byt bs) (hn : n ≤ 65536) (h0 : 0 < n) {i : Nat} (hi : i ≤ 1048576) : 0 ≤ drN bs n i ∧ drN bs n i < n := by
  have h1 := drS_bound hb hn i hi
  have := pk_bound (p := (drS bs n i).1) (s := (drS bs n i).2) (n := n) hb (by omega) hn
  exact ⟨this.2.1, this.2.2 h0⟩
noncomputable def rnW (bs : List Int) (i : Nat) : Nat := fop .quo .f32 (foi .f32 (drN bs 9 i)) (canon .f32 1082130432)

theorem sDrawRain {bs : List Int} {t : AV} {n : Nat} (hb : Byt bs) (hn : n ≤ 4096) : Does Try.prog 8 [.sli (.int .u8) bs t, .int .i64 n] (.own 0 .f32 (tabN (rnW bs) n)) := by
  refine Does.of_awp (X := cx 22) Try.func8 rfl (by kernel_rfl) rfl (by simp [cx]) [36] rfl ?_
  conv => whnf
  repeat (first
    | (refine ⟨⟨by kernel_rfl, by kernel_rfl⟩, ?_⟩; conv => whnf)
    | (refine And.intro (by first | omega | (simp; done) | (simp; omega)) ?_; conv => whnf)
    | (refine Or.inl (And.intro (by omega) ?_); conv => whnf)
    | (refine Exists.intro _ (And.intro (And.intro (sFrom) rfl) ?_); conv => whnf))
  refine ⟨Nat, fun i => i ≤ n, fun i => [(1, .int .i64 ((n : Int) - i)), (5, .loc 32 0), (6, .osl 36)], fun i => [(32, .av [.sli (.int .u8) bs t, .int .i64 (drS bs 9 i).1, .int .u64 (drS bs 9 i).2]), (36, .tab .f32 (tabN (rnW bs) i))], fun i => n - i, ⟨0, id, Nat.zero_le _, rfl, ⟨rfl, rfl, rfl, trivial⟩, ⟨rfl, rfl, trivial⟩⟩, fun i hi => ?_⟩
  conv => whnf
  (refine br_intro (fun h => ?_) (fun h => ?_) <;> (conv => whnf))
  · have h : i < n := by simp at h; omega
    have hp := drS_bound hb (n := 9) (by omega) i (by omega)
    repeat (first
      | (refine ⟨⟨by kernel_rfl, by kernel_rfl⟩, ?_⟩; conv => whnf)
      | (refine And.intro (by first | omega | (simp; done) | (simp; omega)) ?_; conv => whnf)
      | (refine Or.inl (And.intro (by omega) ?_); conv => whnf)
      | (refine Exists.intro _ (Exists.intro _ (And.intro (And.intro (sPick hb (by omega) (by omega)) rfl) ?_)); conv => whnf))
    refine ⟨i + 1, ren [(36, 80)], ⟨h, by dsimp only; omega⟩, rfl, ⟨congrArg (AV.int .i64) (show (n : Int) - i - 1 = n - ((i + 1 : Nat) : Int) by omega), rfl, rfl, trivial⟩, ⟨rfl, rfl, trivial⟩⟩
  · have h : i = n := by simp at h; omega
    subst h
    repeat (first
      | (refine ⟨⟨by kernel_rfl, by kernel_rfl⟩, ?_⟩; conv => whnf)
      | (refine And.intro (by first | omega | (simp; done) | (simp; omega)) ?_; conv => whnf)
      | (refine Or.inl (And.intro (by omega) ?_); conv => whnf))
    all_goals (try (conv => whnf))
    all_goals (repeat' (first | exact True.intro | (refine And.intro ?_ ?_ <;> (conv => whnf))))
    all_goals (first | rfl | (simp_all []; done) | (simp only [cond_true, cond_false, Bool.and_true, Bool.true_and, Bool.and_false, Bool.false_and]; rfl) | (simp_all []; omega))
noncomputable def s1 (bs : List Int) : Int × Nat × Int := pk bs 0 0 9
noncomputable def s2 (bs : List Int) : Int × Nat × Int := pk bs (s1 bs).2.1 (s1 bs).2.2 5
noncomputable def s3 (bs : List Int) : Int × Nat × Int := pk bs (s2 bs).2.1 (s2 bs).2.2 17
noncomputable def s4 (bs : List Int) : Int × Nat × Int := pk bs (s3 bs).2.1 (s3 bs).2.2 9
noncomputable def swA (bs : List Int) : Nat := fop .quo .f32 (foi .f32 (s1 bs).1) (canon .f32 1090519040)
noncomputable def swB (bs : List Int) : Nat := fop .quo .f32 (foi .f32 (s2 bs).1) (canon .f32 1082130432)
noncomputable def swC (bs : List Int) : Nat := fop .quo .f32 (foi .f32 (s3 bs).1) (canon .f32 1082130432)
noncomputable def swD (bs : List Int) : Nat := fop .quo .f32 (foi .f32 (s4 bs).1) (canon .f32 1082130432)
theorem sw_bound {bs : List Int} (hb : Byt bs) : ((s1 bs).2.1 ≤ 2 ∧ 0 ≤ (s1 bs).1 ∧ (s1 bs).1 < 9) ∧ ((s2 bs).2.1 ≤ 4 ∧ 0 ≤ (s2 bs).1 ∧ (s2 bs).1 < 5) ∧ ((s3 bs).2.1 ≤ 6 ∧ 0 ≤ (s3 bs).1 ∧ (s3 bs).1 < 17) ∧ 0 ≤ (s4 bs).1 ∧ (s4 bs).1 < 9 := by
  have h1 := pk_bound (p := 0) (s := 0) (n := 9) hb (by omega) (by omega)
  rw [show pk bs 0 0 9 = s1 bs from rfl] at h1
  have h2 := pk_bound (p := (s1 bs).2.1) (s := (s1 bs).2.2) (n := 5) hb (by omega) (by omega)
  rw [show pk bs _ _ 5 = s2 bs from rfl] at h2
  have h3 := pk_bound (p := (s2 bs).2.1) (s := (s2 bs).2.2) (n := 17) hb (by omega) (by omega)
  rw [show pk bs _ _ 17 = s3 bs from rfl] at h3
  have h4 := pk_bound (p := (s3 bs).2.1) (s := (s3 bs).2.2) (n := 9) hb (by omega) (by omega)
  rw [show pk bs _ _ 9 = s4 bs from rfl] at h4
  omega

noncomputable def atV (bs : List Int) (i : Nat) (n : Int) : Int := bif decide (i < bs.length) then bs.getD i 0 % n else ((i : Int) * 37 + 11) % n
theorem atV_bound (bs : List Int) (i : Nat) {n : Int} (hn : 1 < n) : 0 ≤ atV bs i n ∧ atV bs i n < n := by
  unfold atV
  cases decide (i < bs.length)
  · exact ⟨Int.emod_nonneg _ (by omega), Int.emod_lt_of_pos _ (by omega)⟩
  · exact ⟨Int.emod_nonneg _ (by omega), Int.emod_lt_of_pos _ (by omega)⟩

theorem lAt {bs : List Int} {t : AV} {i : Nat} {n : Int} (hb : Byt bs) (hi : i ≤ 1099511627776) (hn : 1 < n) : Does Try.prog 6 [.sli (.int .u8) bs t, .int .i64 i, .int .i64 n] (.int .i64 (atV bs i n)) := by
  have hl := hb.len
  refine Does.of_awp (X := cx 25) Try.func6 rfl (by kernel_rfl) rfl (by simp [cx]) [] rfl ?_
  conv => whnf
  repeat (first
    | (refine ⟨⟨by kernel_rfl, by kernel_rfl⟩, ?_⟩; conv => whnf)
    | (refine And.intro (by first | omega | (simp; done) | (simp; omega)) ?_; conv => whnf)
    | (refine Or.inl (And.intro (by omega) ?_); conv => whnf))
  (refine br_intro (fun h => ?_) (fun h => ?_) <;> (conv => whnf))
  · exfalso; simp at h; omega
  · repeat (first
      | (refine ⟨⟨by kernel_rfl, by kernel_rfl⟩, ?_⟩; conv => whnf)
      | (refine And.intro (by first | omega | (simp; done) | (simp; omega)) ?_; conv => whnf)
      | (refine Or.inl (And.intro (by omega) ?_); conv => whnf))
    (refine br_intro (fun h1 => ?_) (fun h1 => ?_) <;> (conv => whnf))
    · have h1 : i < bs.length := by simp at h1; omega
      have b : 0 ≤ bs.getD i 0 ∧ bs.getD i 0 < 256 := by
        rw [List.getD_eq_getElem?_getD, List.getElem?_eq_getElem h1]
        exact hb.val _ (List.getElem_mem h1)
      have b2 := b
      simp only [List.getD_eq_getElem?_getD] at b2
      have e : atV bs i n = bs.getD i 0 % n := by unfold atV; rw [decide_eq_true h1, cond_true]
      rw [e]
      have b0 : (0 : Int) ≤ bs.getD ((i : Int)).toNat (RK.int IntKind.u8).z := b.1
      repeat (first
        | (refine ⟨⟨by kernel_rfl, by kernel_rfl⟩, ?_⟩; conv => whnf)
        | (refine And.intro (by first | omega | (simp; done) | (simp; omega)) ?_; conv => whnf)
        | (refine Or.inl (And.intro (by omega) ?_); conv => whnf))
      all_goals (first | rfl | trivial)
    · have h1 : ¬ i < bs.length := by simp at h1; omega
      have e : atV bs i n = ((i : Int) * 37 + 11) % n := by unfold atV; rw [decide_eq_false h1, cond_false]
      rw [e]
      repeat (first
        | (refine ⟨⟨by kernel_rfl, by kernel_rfl⟩, ?_⟩; conv => whnf)
        | (refine And.intro (by first | omega | (simp; done) | (simp; omega)) ?_; conv => whnf)
        | (refine Or.inl (And.intro (by omega) ?_); conv => whnf))
      all_goals (first | rfl | trivial)
noncomputable def totW (xs : List Nat) : Nat → Nat
  | 0 => canon .f64 0
  | i + 1 => fop .add .f64 (totW xs i) (fwiden (xs.getD i 0))

theorem lTotal {xs : List Nat} {t : AV} (hn : xs.length ≤ 1048576) : Does Try.prog 19 [.sli .f32 xs t] (.flt .f64 (totW xs xs.length)) := by
  refine Does.of_awp (X := cx 19) Try.func19 rfl (by kernel_rfl) rfl (by simp [cx]) [] rfl ?_
  conv => whnf
  repeat (first
    | (refine ⟨⟨by kernel_rfl, by kernel_rfl⟩, ?_⟩; conv => whnf)
    | (refine And.intro (by first | omega | (simp; done) | (simp; omega)) ?_; conv => whnf)
    | (refine Or.inl (And.intro (by omega) ?_); conv => whnf))
  refine ⟨Nat, fun i => i ≤ xs.length, fun i => [(0, .sli .f32 xs t), (3, .flt .f64 (totW xs i)), (6, .int .i64 xs.length), (7, .int .i64 i)], fun _ => [], fun i => xs.length - i, ⟨0, id, Nat.zero_le _, rfl, ⟨rfl, rfl, rfl, rfl, trivial⟩, trivial⟩, fun i hi => ?_⟩
  conv => whnf
  (refine br_intro (fun h => ?_) (fun h => ?_) <;> (conv => whnf))
  · have h : i < xs.length := by simp at h; omega
    repeat (first
      | (refine ⟨⟨by kernel_rfl, by kernel_rfl⟩, ?_⟩; conv => whnf)
      | (refine And.intro (by first | omega | (simp; done) | (simp; omega)) ?_; conv => whnf)
      | (refine Or.inl (And.intro (by omega) ?_); conv => whnf))
    refine ⟨i + 1, id, ⟨h, by dsimp only; omega⟩, rfl, ⟨rfl, rfl, rfl, rfl, trivial⟩, trivial⟩
  · have h : i = xs.length := by simp at h; omega
    subst h
    repeat (first
      | (refine ⟨⟨by kernel_rfl, by kernel_rfl⟩, ?_⟩; conv => whnf)
      | (refine And.intro (by first | omega | (simp; done) | (simp; omega)) ?_; conv => whnf)
      | (refine Or.inl (And.intro (by omega) ?_); conv => whnf))
    all_goals (try (conv => whnf))
    all_goals (repeat' (first | exact True.intro | (refine And.intro ?_ ?_ <;> (conv => whnf))))
    all_goals (first | rfl | (simp_all []; done) | (simp only [cond_true, cond_false, Bool.and_true, Bool.true_and, Bool.and_false, Bool.false_and]; rfl) | (simp_all []; omega))
noncomputable def gapW (a b : Nat) : Nat := bif fcmp .lss .f64 a b then fop .sub .f64 b a else fop .sub .f64 a b

theorem lGap {a b : Nat} : Does Try.prog 18 [.flt .f64 a, .flt .f64 b] (.flt .f64 (gapW a b)) := by
  refine Does.of_awp (X := cx 14) Try.func18 rfl (by kernel_rfl) rfl (by simp [cx]) [] rfl ?_
  conv => whnf
  repeat' (first
    | (refine br_intro (fun h => ?_) (fun h => ?_) <;> (conv => whnf))
    | (refine ⟨⟨by kernel_rfl, by kernel_rfl⟩, ?_⟩; conv => whnf)
    | (refine And.intro (by first | omega | (simp; done) | (simp; omega)) ?_; conv => whnf)
    | (refine Or.inl (And.intro (by omega) ?_); conv => whnf))
  all_goals (try (conv => whnf))
  all_goals (repeat' (first | exact True.intro | (refine And.intro ?_ ?_ <;> (conv => whnf))))
  all_goals (first | rfl | (simp_all [gapW]; done) | (simp only [gapW, cond_true, cond_false, Bool.and_true, Bool.true_and, Bool.and_false, Bool.false_and]; rfl) | (simp_all [gapW]; omega))

theorem lLong {bs cs : List Int} {t t' : AV} (h1 : bs.length < 2 ^ 63) (h2 : cs.length < 2 ^ 63) : Does Try.prog 5 [.sli (.int .u8) bs t, .sli (.int .u8) cs t'] (.bool (decide (1048576 < bs.length) || decide (1048576 < cs.length))) := by
  refine Does.of_awp (X := cx 13) Try.func5 rfl (by kernel_rfl) rfl (by simp [cx]) [] rfl ?_
  conv => whnf
  repeat (first
    | (refine ⟨⟨by kernel_rfl, by kernel_rfl⟩, ?_⟩; conv => whnf)
    | (refine And.intro (by first | omega | (simp; done) | (simp; omega)) ?_; conv => whnf)
    | (refine Or.inl (And.intro (by omega) ?_); conv => whnf))
  (refine br_intro (fun h => ?_) (fun h => ?_) <;> (conv => whnf))
  · have h : 1048576 < bs.length := by simp at h; omega
    rw [decide_eq_true h]
    repeat (first
      | (refine ⟨⟨by kernel_rfl, by kernel_rfl⟩, ?_⟩; conv => whnf)
      | (refine And.intro (by first | omega | (simp; done) | (simp; omega)) ?_; conv => whnf)
      | (refine Or.inl (And.intro (by omega) ?_); conv => whnf)
      | (refine br_intro (fun h => by exfalso; first | (simp at h; done) | (simp at h; omega) | omega) (fun _ => ?_); conv => whnf)
      | (refine br_intro (fun _ => ?_) (fun h => by exfalso; first | (simp at h; done) | (simp at h; omega) | omega); conv => whnf))
    all_goals (try (conv => whnf))
    all_goals (repeat' (first | exact True.intro | (refine And.intro ?_ ?_ <;> (conv => whnf))))
    all_goals (first | rfl | (simp_all []; done) | (simp only [cond_true, cond_false, Bool.and_true, Bool.true_and, Bool.and_false, Bool.false_and]; rfl) | (simp_all []; omega))
  · have h : ¬ 1048576 < bs.length := by simp at h; omega
    rw [decide_eq_false h, Bool.false_or]
    repeat (first
      | (refine ⟨⟨by kernel_rfl, by kernel_rfl⟩, ?_⟩; conv => whnf)
      | (refine And.intro (by first | omega | (simp; done) | (simp; omega)) ?_; conv => whnf)
      | (refine Or.inl (And.intro (by omega) ?_); conv => whnf))
    by_cases h3 : 1048576 < cs.length
    · rw [decide_eq_true h3, show decide ((cs.length : Int) > 1048576) = true from decide_eq_true (by omega)]
    · rw [decide_eq_false h3, show decide ((cs.length : Int) > 1048576) = false from decide_eq_false (by omega)]

end Go.Proofs.Ytnepjbnoaemmdaa
