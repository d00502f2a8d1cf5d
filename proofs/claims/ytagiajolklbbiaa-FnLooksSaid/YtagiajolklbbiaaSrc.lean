/- What each function of this seat does (Src). Printed from templates of this seat's own. -/
import Derived.Test.YtagiajolklbbiaaNum
namespace Go.Proofs.Ytagiajolklbbiaa
open Go.Ax Go.Bx
set_option maxRecDepth 8000
set_option linter.unusedSimpArgs false
set_option linter.unusedVariables false
def mulS : Int := 6364136223846793005
noncomputable def srB (bs : List Int) (p : Nat) : Int := bif decide (p < bs.length) then bs.getD p 0 else 0
noncomputable def srE (s : Int) : Int := IntKind.u64.wrap ((BitVec.ofInt IntKind.u64.bits (s.fdiv (2 ^ (min (40 : Int).toNat IntKind.u64.bits))) &&& BitVec.ofInt IntKind.u64.bits 255).toNat : Int)
/-- A source's cells. -/
def srC (bs : List Int) (t : AV) (p : Nat) (s : Int) : List AV := [.sli (.int .u8) bs t, .int .i64 p, .int .u64 s]

theorem sFrom {bs : List Int} {t : AV} : DoesN Try.prog 19 [.sli (.int .u8) bs t] (srC bs t 0 0) := by
  refine DoesN.of_awp (X := cx 6) Try.func19 rfl (by kernel_rfl) rfl (by simp [cx]) rfl ?_
  conv => whnf
  repeat' (first
    | (refine br_intro (fun h => ?_) (fun h => ?_) <;> (conv => whnf))
    | (refine ⟨⟨by kernel_rfl, by kernel_rfl⟩, ?_⟩; conv => whnf)
    | (refine And.intro (by first | omega | (simp; done) | (simp; omega)) ?_; conv => whnf)
    | (refine Or.inl (And.intro (by omega) ?_); conv => whnf))
  all_goals (try (conv => whnf))
  all_goals (repeat' (first | exact True.intro | (refine And.intro ?_ ?_ <;> (conv => whnf))))
  all_goals (first | rfl | (simp_all [srC]; done) | (simp only [srC, cond_true, cond_false, Bool.and_true, Bool.true_and, Bool.and_false, Bool.false_and]; rfl) | (simp_all [srC]; omega))
theorem and255 (x : BitVec IntKind.u64.bits) : (x &&& BitVec.ofInt IntKind.u64.bits 255).toNat < 256 := by
  rw [BitVec.toNat_and]
  exact Nat.lt_of_le_of_lt Nat.and_le_right (by decide)
theorem srE_bound (s : Int) : 0 ≤ srE s ∧ srE s < 256 := by
  unfold srE
  generalize BitVec.ofInt IntKind.u64.bits (s.fdiv (2 ^ (min (40 : Int).toNat IntKind.u64.bits))) = x
  have h := and255 x
  generalize (x &&& BitVec.ofInt IntKind.u64.bits 255).toNat = n at h
  have e : IntKind.u64.wrap (n : Int) = n := IntWalk.u64_in _ (by omega)
  rw [e]
  omega
def bytes (bs : List Int) : Prop := ∀ b ∈ bs, 0 ≤ b ∧ b < 256
theorem srB_bound {bs : List Int} (hb : bytes bs) (p : Nat) : 0 ≤ srB bs p ∧ srB bs p < 256 := by
  unfold srB
  by_cases h : p < bs.length
  · rw [decide_eq_true h, cond_true, List.getD_eq_getElem?_getD, List.getElem?_eq_getElem h]
    exact hb _ (List.getElem_mem h)
  · rw [decide_eq_false h, cond_false]; omega

theorem sNext_ex {bs : List Int} {p : Nat} {s : Int} (hb : bytes bs) (hn : bs.length ≤ 1099511627776) (hp : p ≤ 1099511627776) : ∃ y s' : Int, (∀ t : AV, DoesP Try.prog 46 [.loc LK 0] (srC bs t p s) (.int .i64 y) (srC bs t (p + 1) s')) ∧ 0 ≤ y ∧ y < 256 := by
  have b1 := srB_bound hb p
  by_cases h0 : p < bs.length
  · have c1 := b1.1
    have c2 := b1.2
    have e0 : srB bs p = bs.getD p 0 := by unfold srB; rw [decide_eq_true h0, cond_true]
    rw [e0] at c1 c2
    have c3 := c1
    have c4 := c2
    simp only [List.getD_eq_getElem?_getD] at c3 c4
    refine ⟨bs.getD p 0, IntKind.u64.wrap (IntKind.u64.wrap (IntKind.u64.wrap (s * 6364136223846793005) + IntKind.u64.wrap (bs.getD p 0)) + 1442695040888963407), fun t => ?_, c1, c2⟩
    refine DoesP.of_awp (X := cx 62) Try.func46 rfl (by kernel_rfl) rfl (by simp [cx]) rfl (by simp) rfl ?_
    conv => whnf
    repeat (first
      | (refine ⟨⟨by kernel_rfl, by kernel_rfl⟩, ?_⟩; conv => whnf)
      | (refine And.intro (by first | omega | (simp; done) | (simp; omega)) ?_; conv => whnf)
      | (refine Or.inl (And.intro (by omega) ?_); conv => whnf))
    (refine br_intro (fun h => ?_) (fun h => ?_) <;> (conv => whnf))
    · repeat (first
        | (refine ⟨⟨by kernel_rfl, by kernel_rfl⟩, ?_⟩; conv => whnf)
        | (refine And.intro (by first | omega | (simp; done) | (simp; omega)) ?_; conv => whnf)
        | (refine Or.inl (And.intro (by omega) ?_); conv => whnf))
      (refine br_intro (fun h2 => ?_) (fun h2 => ?_) <;> (conv => whnf))
      · repeat (first
          | (refine ⟨⟨by kernel_rfl, by kernel_rfl⟩, ?_⟩; conv => whnf)
          | (refine And.intro (by first | omega | (simp; done) | (simp; omega)) ?_; conv => whnf)
          | (refine Or.inl (And.intro (by omega) ?_); conv => whnf))
        first | rfl | exact ⟨rfl, rfl⟩
      · exfalso; simp at h2; omega
    · exfalso; simp at h; omega
  · refine ⟨srE (IntKind.u64.wrap (IntKind.u64.wrap (IntKind.u64.wrap (s * 6364136223846793005) + IntKind.u64.wrap 0) + 1442695040888963407)), IntKind.u64.wrap (IntKind.u64.wrap (IntKind.u64.wrap (s * 6364136223846793005) + IntKind.u64.wrap 0) + 1442695040888963407), fun t => ?_, srE_bound _⟩
    refine DoesP.of_awp (X := cx 62) Try.func46 rfl (by kernel_rfl) rfl (by simp [cx]) rfl (by simp) rfl ?_
    conv => whnf
    repeat (first
      | (refine ⟨⟨by kernel_rfl, by kernel_rfl⟩, ?_⟩; conv => whnf)
      | (refine And.intro (by first | omega | (simp; done) | (simp; omega)) ?_; conv => whnf)
      | (refine Or.inl (And.intro (by omega) ?_); conv => whnf))
    (refine br_intro (fun h => ?_) (fun h => ?_) <;> (conv => whnf))
    · exfalso; simp at h; omega
    · repeat (first
        | (refine ⟨⟨by kernel_rfl, by kernel_rfl⟩, ?_⟩; conv => whnf)
        | (refine And.intro (by first | omega | (simp; done) | (simp; omega)) ?_; conv => whnf)
        | (refine Or.inl (And.intro (by omega) ?_); conv => whnf))
      (refine br_intro (fun h2 => ?_) (fun h2 => ?_) <;> (conv => whnf))
      · exfalso; simp at h2; omega
      · have g := srE_bound (IntKind.u64.wrap (IntKind.u64.wrap (IntKind.u64.wrap (s * 6364136223846793005) + IntKind.u64.wrap 0) + 1442695040888963407))
        unfold srE at g
        refine ⟨⟨by omega, by omega⟩, ?_⟩
        conv => whnf
        repeat (first
          | (refine ⟨⟨by kernel_rfl, by kernel_rfl⟩, ?_⟩; conv => whnf)
          | (refine And.intro (by first | omega | (simp; done) | (simp; omega)) ?_; conv => whnf)
          | (refine Or.inl (And.intro (by omega) ?_); conv => whnf))
        first | rfl | exact ⟨rfl, rfl⟩

theorem sPick_ex {bs : List Int} {p : Nat} {s n : Int} (hb : bytes bs) (hn : bs.length ≤ 1099511627776) (hp : p ≤ 549755813888) (hn2 : n ≤ 65536) : ∃ (y : Int) (p' : Nat) (s' : Int), (∀ t : AV, DoesP Try.prog 20 [.loc LK 0, .int .i64 n] (srC bs t p s) (.int .i64 y) (srC bs t p' s')) ∧ p' ≤ p + 2 ∧ 0 ≤ y ∧ (0 < n → y < n) := by
  by_cases h1 : n ≤ 1
  · refine ⟨0, p, s, fun t => ?_, by omega, by omega, by omega⟩
    refine DoesP.of_awp (X := cx 20) Try.func20 rfl (by kernel_rfl) rfl (by simp [cx]) rfl (by simp) rfl ?_
    conv => whnf
    repeat (first
      | (refine ⟨⟨by kernel_rfl, by kernel_rfl⟩, ?_⟩; conv => whnf)
      | (refine And.intro (by first | omega | (simp; done) | (simp; omega)) ?_; conv => whnf)
      | (refine Or.inl (And.intro (by omega) ?_); conv => whnf))
    (refine br_intro (fun h => ?_) (fun h => ?_) <;> (conv => whnf))
    · repeat (first
        | (refine ⟨⟨by kernel_rfl, by kernel_rfl⟩, ?_⟩; conv => whnf)
        | (refine And.intro (by first | omega | (simp; done) | (simp; omega)) ?_; conv => whnf)
        | (refine Or.inl (And.intro (by omega) ?_); conv => whnf))
      first | rfl | exact ⟨rfl, rfl⟩
    · exfalso; simp at h; omega
  · obtain ⟨y1, s1, d1, a1, a2⟩ := @sNext_ex bs p s hb hn (by omega)
    by_cases h2 : n ≤ 200
    · refine ⟨y1 % n, p + 1, s1, fun t => ?_, by omega, Int.emod_nonneg _ (by omega), fun _ => Int.emod_lt_of_pos _ (by omega)⟩
      refine DoesP.of_awp (X := cx 20) Try.func20 rfl (by kernel_rfl) rfl (by simp [cx]) rfl (by simp) rfl ?_
      conv => whnf
      repeat (first
        | (refine ⟨⟨by kernel_rfl, by kernel_rfl⟩, ?_⟩; conv => whnf)
        | (refine And.intro (by first | omega | (simp; done) | (simp; omega)) ?_; conv => whnf)
        | (refine Or.inl (And.intro (by omega) ?_); conv => whnf))
      (refine br_intro (fun h => ?_) (fun h => ?_) <;> (conv => whnf))
      · exfalso; simp at h; omega
      · repeat (first
          | (refine ⟨⟨by kernel_rfl, by kernel_rfl⟩, ?_⟩; conv => whnf)
          | (refine And.intro (by first | omega | (simp; done) | (simp; omega)) ?_; conv => whnf)
          | (refine Or.inl (And.intro (by omega) ?_); conv => whnf)
          | (refine Exists.intro _ (Exists.intro _ (And.intro (And.intro (d1 _) rfl) ?_)); conv => whnf))
        (refine br_intro (fun h3 => ?_) (fun h3 => ?_) <;> (conv => whnf))
        · exfalso; simp at h3; omega
        · repeat (first
            | (refine ⟨⟨by kernel_rfl, by kernel_rfl⟩, ?_⟩; conv => whnf)
            | (refine And.intro (by first | omega | (simp; done) | (simp; omega)) ?_; conv => whnf)
            | (refine Or.inl (And.intro (by omega) ?_); conv => whnf))
          first | rfl | exact ⟨rfl, rfl⟩
    · obtain ⟨y2, s2, d2, c1, c2⟩ := @sNext_ex bs (p + 1) s1 hb hn (by omega)
      refine ⟨(y1 * 256 + y2) % n, p + 2, s2, fun t => ?_, by omega, Int.emod_nonneg _ (by omega), fun _ => Int.emod_lt_of_pos _ (by omega)⟩
      refine DoesP.of_awp (X := cx 20) Try.func20 rfl (by kernel_rfl) rfl (by simp [cx]) rfl (by simp) rfl ?_
      conv => whnf
      repeat (first
        | (refine ⟨⟨by kernel_rfl, by kernel_rfl⟩, ?_⟩; conv => whnf)
        | (refine And.intro (by first | omega | (simp; done) | (simp; omega)) ?_; conv => whnf)
        | (refine Or.inl (And.intro (by omega) ?_); conv => whnf))
      (refine br_intro (fun h => ?_) (fun h => ?_) <;> (conv => whnf))
      · exfalso; simp at h; omega
      · repeat (first
          | (refine ⟨⟨by kernel_rfl, by kernel_rfl⟩, ?_⟩; conv => whnf)
          | (refine And.intro (by first | omega | (simp; done) | (simp; omega)) ?_; conv => whnf)
          | (refine Or.inl (And.intro (by omega) ?_); conv => whnf)
          | (refine Exists.intro _ (Exists.intro _ (And.intro (And.intro (d1 _) rfl) ?_)); conv => whnf))
        (refine br_intro (fun h3 => ?_) (fun h3 => ?_) <;> (conv => whnf))
        · repeat (first
            | (refine ⟨⟨by kernel_rfl, by kernel_rfl⟩, ?_⟩; conv => whnf)
            | (refine And.intro (by first | omega | (simp; done) | (simp; omega)) ?_; conv => whnf)
            | (refine Or.inl (And.intro (by omega) ?_); conv => whnf)
            | (refine Exists.intro _ (Exists.intro _ (And.intro (And.intro (d2 _) rfl) ?_)); conv => whnf))
          first | rfl | exact ⟨rfl, rfl⟩
        · exfalso; simp at h3; omega

theorem pk_ex (bs : List Int) (p : Nat) (s n : Int) : ∃ z : Int × Nat × Int, bytes bs → bs.length ≤ 1099511627776 → p ≤ 549755813888 → n ≤ 65536 → (∀ t : AV, DoesP Try.prog 20 [.loc LK 0, .int .i64 n] (srC bs t p s) (.int .i64 z.1) (srC bs t z.2.1 z.2.2)) ∧ z.2.1 ≤ p + 2 ∧ 0 ≤ z.1 ∧ (0 < n → z.1 < n) := by
  by_cases h : bytes bs ∧ bs.length ≤ 1099511627776 ∧ p ≤ 549755813888 ∧ n ≤ 65536
  · obtain ⟨h1, h2, h3, h4⟩ := h
    obtain ⟨y, p', s', h⟩ := @sPick_ex bs p s n h1 h2 h3 h4
    exact ⟨(y, p', s'), fun _ _ _ _ => h⟩
  · exact ⟨(0, 0, 0), fun h1 h2 h3 h4 => absurd ⟨h1, h2, h3, h4⟩ h⟩
noncomputable def pk (bs : List Int) (p : Nat) (s n : Int) : Int × Nat × Int := Classical.choose (pk_ex bs p s n)
/-- Bytes that a law was handed. -/
structure Byt (bs : List Int) : Prop where
  val : bytes bs
  len : bs.length ≤ 1099511627776
theorem sPick {bs : List Int} {t : AV} {p : Nat} {s n : Int} (hb : Byt bs) (hp : p ≤ 549755813888) (hn : n ≤ 65536) : DoesP Try.prog 20 [.loc LK 0, .int .i64 n] (srC bs t p s) (.int .i64 (pk bs p s n).1) (srC bs t (pk bs p s n).2.1 (pk bs p s n).2.2) :=
  (Classical.choose_spec (pk_ex bs p s n) hb.val hb.len hp hn).1 t
theorem pk_bound {bs : List Int} {p : Nat} {s n : Int} (hb : Byt bs) (hp : p ≤ 549755813888) (hn : n ≤ 65536) : (pk bs p s n).2.1 ≤ p + 2 ∧ 0 ≤ (pk bs p s n).1 ∧ (0 < n → (pk bs p s n).1 < n) :=
  (Classical.choose_spec (pk_ex bs p s n) hb.val hb.len hp hn).2

end Go.Proofs.Ytagiajolklbbiaa
