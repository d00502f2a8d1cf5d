/- What each function of this seat does (Nr1). Printed from templates of this seat's own. -/
import Derived.Test.YtnepjbnoaemmdaaZu
namespace Go.Proofs.Ytnepjbnoaemmdaa
open Go.Ax Go.Bx
set_option maxRecDepth 8000
set_option linter.unusedSimpArgs false
set_option linter.unusedVariables false
/-! Rain near a place. -/
def cDif (p q : Nat × Nat) : Nat × Nat := (fop .sub .f32 p.1 q.1, fop .sub .f32 p.2 q.2)
def pw64 (d : Nat × Nat) : Nat := fop .add .f64 (fop .mul .f64 (fwiden d.1) (fwiden d.1)) (fop .mul .f64 (fwiden d.2) (fwiden d.2))
def cLong (d : Nat × Nat) : Nat := fnarrow (fsqrt (pw64 d))
def cPow (d : Nat × Nat) : Nat := fnarrow (pw64 d)
def cEq (p q : Nat × Nat) : Bool := fcmp .eql .f32 p.1 q.1 && fcmp .eql .f32 p.2 q.2

theorem iNumber {x : Nat} : Does Try.prog 31 [.flt .f32 x] (.tup [.flt .f32 (bif fin x then x else canon .f32 0), .bool (fin x)]) := by
  refine Does.of_awp (X := cx 8) Try.func31 rfl (by kernel_rfl) rfl (by simp [cx]) [] rfl ?_
  conv => whnf
  repeat' (first
    | (refine br_intro (fun h => ?_) (fun h => ?_) <;> (conv => whnf))
    | (refine ⟨⟨by kernel_rfl, by kernel_rfl⟩, ?_⟩; conv => whnf)
    | (refine And.intro (by first | omega | (simp; done) | (simp; omega)) ?_; conv => whnf)
    | (refine Or.inl (And.intro (by omega) ?_); conv => whnf)
    | (refine Exists.intro _ (And.intro (iIsFinite) ?_); conv => whnf))
  all_goals (try (conv => whnf))
  all_goals (repeat' (first | exact True.intro | (refine And.intro ?_ ?_ <;> (conv => whnf))))
  all_goals (first | rfl | (simp_all []; done) | (simp only [cond_true, cond_false, Bool.and_true, Bool.true_and, Bool.and_false, Bool.false_and]; rfl) | (simp_all []; omega))

theorem iParts {p : Nat × Nat} : Does Try.prog 67 [.cpx .f32 p.1 p.2] (.tup [.flt .f64 (fwiden p.1), .flt .f64 (fwiden p.2)]) := by
  refine Does.of_awp (X := cx 10) Try.func67 rfl (by kernel_rfl) rfl (by simp [cx]) [] rfl ?_
  conv => whnf
  repeat (first
    | (refine ⟨⟨by kernel_rfl, by kernel_rfl⟩, ?_⟩; conv => whnf)
    | (refine And.intro (by first | omega | (simp; done) | (simp; omega)) ?_; conv => whnf)
    | (refine Or.inl (And.intro (by omega) ?_); conv => whnf))
  all_goals (first | rfl | trivial)

theorem iPower64 {p : Nat × Nat} : Does Try.prog 53 [.cpx .f32 p.1 p.2] (.flt .f64 (pw64 p)) := by
  refine Does.of_awp (X := cx 17) Try.func53 rfl (by kernel_rfl) rfl (by simp [cx]) [] rfl ?_
  conv => whnf
  repeat (first
    | (refine ⟨⟨by kernel_rfl, by kernel_rfl⟩, ?_⟩; conv => whnf)
    | (refine And.intro (by first | omega | (simp; done) | (simp; omega)) ?_; conv => whnf)
    | (refine Or.inl (And.intro (by omega) ?_); conv => whnf)
    | (refine Exists.intro _ (And.intro (iParts) ?_); conv => whnf))
  all_goals (first | rfl | trivial)

theorem iPowerOf {p : Nat × Nat} (h : tooBig (pw64 p) = false) : Does Try.prog 30 [.cpx .f32 p.1 p.2] (.flt .f32 (cPow p)) := by
  refine Does.of_awp (X := cx 6) Try.func30 rfl (by kernel_rfl) rfl (by simp [cx]) [] rfl ?_
  conv => whnf
  repeat (first
    | (refine ⟨⟨by kernel_rfl, by kernel_rfl⟩, ?_⟩; conv => whnf)
    | (refine And.intro (by first | omega | (simp; done) | (simp; omega)) ?_; conv => whnf)
    | (refine Or.inl (And.intro (by omega) ?_); conv => whnf)
    | (refine Exists.intro _ (And.intro (iPower64) ?_); conv => whnf))
  all_goals (first | rfl | trivial)

theorem iLongOf {p : Nat × Nat} (h : tooBig (fsqrt (pw64 p)) = false) : Does Try.prog 28 [.cpx .f32 p.1 p.2] (.flt .f32 (cLong p)) := by
  refine Does.of_awp (X := cx 7) Try.func28 rfl (by kernel_rfl) rfl (by simp [cx]) [] rfl ?_
  conv => whnf
  repeat (first
    | (refine ⟨⟨by kernel_rfl, by kernel_rfl⟩, ?_⟩; conv => whnf)
    | (refine And.intro (by first | omega | (simp; done) | (simp; omega)) ?_; conv => whnf)
    | (refine Or.inl (And.intro (by omega) ?_); conv => whnf)
    | (refine Exists.intro _ (And.intro (iPower64) ?_); conv => whnf)
    | (refine Exists.intro _ (And.intro (xSqrt) ?_); conv => whnf))
  all_goals (first | rfl | trivial)

theorem iLessC {p q : Nat × Nat} : Does Try.prog 29 [.cpx .f32 p.1 p.2, .cpx .f32 q.1 q.2] (.cpx .f32 (cDif p q).1 (cDif p q).2) := by
  refine Does.of_awp (X := cx 16) Try.func29 rfl (by kernel_rfl) rfl (by simp [cx]) [] rfl ?_
  conv => whnf
  repeat (first
    | (refine ⟨⟨by kernel_rfl, by kernel_rfl⟩, ?_⟩; conv => whnf)
    | (refine And.intro (by first | omega | (simp; done) | (simp; omega)) ?_; conv => whnf)
    | (refine Or.inl (And.intro (by omega) ?_); conv => whnf))
  all_goals (first | rfl | trivial)

theorem iFinC {p : Nat × Nat} : Does Try.prog 26 [.cpx .f32 p.1 p.2] (.bool (fin p.1 && fin p.2)) := by
  refine Does.of_awp (X := cx 11) Try.func26 rfl (by kernel_rfl) rfl (by simp [cx]) [] rfl ?_
  conv => whnf
  repeat' (first
    | (refine br_intro (fun h => ?_) (fun h => ?_) <;> (conv => whnf))
    | (refine ⟨⟨by kernel_rfl, by kernel_rfl⟩, ?_⟩; conv => whnf)
    | (refine And.intro (by first | omega | (simp; done) | (simp; omega)) ?_; conv => whnf)
    | (refine Or.inl (And.intro (by omega) ?_); conv => whnf)
    | (refine Exists.intro _ (And.intro (iIsFinite) ?_); conv => whnf))
  all_goals (try (conv => whnf))
  all_goals (repeat' (first | exact True.intro | (refine And.intro ?_ ?_ <;> (conv => whnf))))
  all_goals (first | rfl | (simp_all []; done) | (simp only [cond_true, cond_false, Bool.and_true, Bool.true_and, Bool.and_false, Bool.false_and]; rfl) | (simp_all []; omega))

theorem xIndexNo {ps : List (Nat × Nat)} {t : AV} {q : Nat × Nat} (hn : ps.length ≤ 1048576) (h : ∀ i, i < ps.length → cEq q (ps.getD i (0, 0)) = false) :
    Does Try.prog 51 [.sli .c64 ps t, .cpx .f32 q.1 q.2] (.int .i64 (-1)) := by
  refine Does.of_awp (X := cx 19) Try.func51 rfl (by kernel_rfl) rfl (by simp [cx]) [] rfl ?_
  conv => whnf
  repeat (first
    | (refine ⟨⟨by kernel_rfl, by kernel_rfl⟩, ?_⟩; conv => whnf)
    | (refine And.intro (by first | omega | (simp; done) | (simp; omega)) ?_; conv => whnf)
    | (refine Or.inl (And.intro (by omega) ?_); conv => whnf))
  refine ⟨Nat, fun i => i ≤ ps.length, fun i => [(0, .sli .c64 ps t), (1, .cpx .f32 q.1 q.2), (7, .int .i64 ps.length), (8, .int .i64 i)], fun _ => [], fun i => ps.length - i, ⟨0, id, Nat.zero_le _, rfl, ⟨rfl, rfl, rfl, rfl, trivial⟩, trivial⟩, fun i hi => ?_⟩
  conv => whnf
  (refine br_intro (fun h1 => ?_) (fun h1 => ?_) <;> (conv => whnf))
  · have h1 : i < ps.length := by simp at h1; omega
    have e := h i h1
    repeat (first
      | (refine ⟨⟨by kernel_rfl, by kernel_rfl⟩, ?_⟩; conv => whnf)
      | (refine And.intro (by first | omega | (simp; done) | (simp; omega)) ?_; conv => whnf)
      | (refine Or.inl (And.intro (by omega) ?_); conv => whnf))
    (refine br_intro (fun h2 => ?_) (fun h2 => ?_) <;> (conv => whnf))
    · exfalso
      have h2 : cEq q (ps.getD i (0, 0)) = true := h2
      rw [e] at h2; cases h2
    repeat (first
      | (refine ⟨⟨by kernel_rfl, by kernel_rfl⟩, ?_⟩; conv => whnf)
      | (refine And.intro (by first | omega | (simp; done) | (simp; omega)) ?_; conv => whnf)
      | (refine Or.inl (And.intro (by omega) ?_); conv => whnf))
    refine ⟨i + 1, id, ⟨h1, by dsimp only; omega⟩, rfl, ⟨rfl, rfl, rfl, rfl, trivial⟩, trivial⟩

theorem xContainsNo {ps : List (Nat × Nat)} {t : AV} {q : Nat × Nat} (hn : ps.length ≤ 1048576) (h : ∀ i, i < ps.length → cEq q (ps.getD i (0, 0)) = false) :
    Does Try.prog 27 [.sli .c64 ps t, .cpx .f32 q.1 q.2] (.bool false) := by
  refine Does.of_awp (X := cx 9) Try.func27 rfl (by kernel_rfl) rfl (by simp [cx]) [] rfl ?_
  conv => whnf
  repeat (first
    | (refine ⟨⟨by kernel_rfl, by kernel_rfl⟩, ?_⟩; conv => whnf)
    | (refine And.intro (by first | omega | (simp; done) | (simp; omega)) ?_; conv => whnf)
    | (refine Or.inl (And.intro (by omega) ?_); conv => whnf)
    | (refine Exists.intro _ (And.intro (xIndexNo hn h) ?_); conv => whnf))
  all_goals (first | rfl | trivial)
/-- What is asked of places and falls. -/
structure NrH (ps : List (Nat × Nat)) (fs : List Nat) (a : Nat × Nat) : Prop where
  len : 1 ≤ ps.length ∧ ps.length ≤ 24
  lf : fs.length = ps.length
  ff : finL fs = true
  fa : (fin a.1 && fin a.2) = true
  fp : ∀ i, i < ps.length → (fin (ps.getD i (0, 0)).1 && fin (ps.getD i (0, 0)).2) = true
  dis : ∀ i, i < ps.length → ∀ j, j < i → cEq (ps.getD i (0, 0)) (ps.getD j (0, 0)) = false
  tl : ∀ i, i < ps.length → tooBig (fsqrt (pw64 (cDif a (ps.getD i (0, 0))))) = false
  tp : ∀ i, i < ps.length → tooBig (pw64 (cDif a (ps.getD i (0, 0)))) = false
/-- Is a place the one? -/
def nrZ (ps : List (Nat × Nat)) (a : Nat × Nat) (i : Nat) : Bool := fcmp .eql .f32 (cLong (cDif a (ps.getD i (0, 0)))) (canon .f32 0)
noncomputable def nrW (ps : List (Nat × Nat)) (a : Nat × Nat) (i : Nat) : Nat := fop .quo .f32 (canon .f32 1065353216) (cPow (cDif a (ps.getD i (0, 0))))
noncomputable def nrS (ps : List (Nat × Nat)) (fs : List Nat) (a : Nat × Nat) : Nat → Nat
  | 0 => canon .f32 0
  | i + 1 => fop .add .f32 (nrS ps fs a i) (fop .mul .f32 (nrW ps a i) (fs.getD i 0))
noncomputable def nrA (ps : List (Nat × Nat)) (a : Nat × Nat) : Nat → Nat
  | 0 => canon .f32 0
  | i + 1 => fop .add .f32 (nrA ps a i) (nrW ps a i)
noncomputable def nrQ (ps : List (Nat × Nat)) (fs : List Nat) (a : Nat × Nat) : Nat := fop .quo .f32 (nrS ps fs a ps.length) (nrA ps a ps.length)

section
variable {ps : List (Nat × Nat)} {fs : List Nat} {a : Nat × Nat} {t t' : AV} (H : NrH ps fs a)
include H
theorem take_no (i : Nat) (hi : i < ps.length) : ∀ j, j < (ps.take i).length → cEq (ps.getD i (0, 0)) ((ps.take i).getD j (0, 0)) = false := fun j hj => by
  rw [List.length_take] at hj
  have := H.dis i hi j (by omega)
  rw [List.getD_eq_getElem?_getD (l := ps.take i), List.getElem?_take, if_pos (by omega), ← List.getD_eq_getElem?_getD]
  exact this
theorem iNearAt {k : Nat} (hk : k < ps.length) (h1 : nrZ ps a k = true) (h2 : ∀ j, j < k → nrZ ps a j = false) :
    Does Try.prog 7 [.sli .c64 ps t, .sli .f32 fs t', .cpx .f32 a.1 a.2] (.tup [.flt .f32 (fs.getD k 0), .bool true]) := by
  obtain ⟨l1, l2⟩ := H.len
  have lf := H.lf
  have c1 : Does Try.prog 24 [.int .i64 (ps.length : Int), .int .i64 1, .int .i64 24] (.bool true) := by
    have := @iWithin (ps.length : Int) 1 24
    rwa [show inR (ps.length : Int) 1 24 = true by simp [inR]; omega] at this
  have c2 : ∀ t, Does Try.prog 25 [.sli .f32 fs t] (.bool true) := fun t => H.ff ▸ iFinL (by omega)
  have c3 : Does Try.prog 26 [.cpx .f32 a.1 a.2] (.bool true) := H.fa ▸ iFinC
  refine Does.of_awp (X := cx 103) Try.func7 rfl (by kernel_rfl) rfl (by simp [cx]) [] rfl ?_
  conv => whnf
  repeat (first
    | (refine ⟨⟨by kernel_rfl, by kernel_rfl⟩, ?_⟩; conv => whnf)
    | (refine And.intro (by first | omega | (simp; done) | (simp; omega)) ?_; conv => whnf)
    | (refine Or.inl (And.intro (by omega) ?_); conv => whnf)
    | (refine Exists.intro _ (And.intro (c1) ?_); conv => whnf)
    | (refine Exists.intro _ (And.intro (c2 _) ?_); conv => whnf)
    | (refine Exists.intro _ (And.intro (c3) ?_); conv => whnf))
  (refine br_intro (fun g => ?_) (fun g => ?_) <;> (conv => whnf))
  · exfalso; simp at g; omega
  repeat (first
    | (refine ⟨⟨by kernel_rfl, by kernel_rfl⟩, ?_⟩; conv => whnf)
    | (refine And.intro (by first | omega | (simp; done) | (simp; omega)) ?_; conv => whnf)
    | (refine Or.inl (And.intro (by omega) ?_); conv => whnf)
    | (refine Exists.intro _ (And.intro (c1) ?_); conv => whnf)
    | (refine Exists.intro _ (And.intro (c2 _) ?_); conv => whnf)
    | (refine Exists.intro _ (And.intro (c3) ?_); conv => whnf))
  refine ⟨Nat, fun i => i ≤ ps.length, fun i => [(0, .sli .c64 ps t), (1, .sli .f32 fs t'), (2, .cpx .f32 a.1 a.2), (38, .sli .c64 ps t), (39, .int .i64 ps.length), (40, .int .i64 i)], fun _ => [], fun i => ps.length - i, ⟨0, id, Nat.zero_le _, rfl, ⟨rfl, rfl, rfl, rfl, rfl, rfl, trivial⟩, trivial⟩, fun i hi => ?_⟩
  conv => whnf
  (refine br_intro (fun g2 => ?_) (fun g2 => ?_) <;> (conv => whnf))
  · have g2 : i < ps.length := by simp at g2; omega
    have d1 : Does Try.prog 26 [.cpx .f32 (ps.getD i (0, 0)).1 (ps.getD i (0, 0)).2] (.bool true) := H.fp i g2 ▸ iFinC
    have d2 : ∀ t, Does Try.prog 27 [.sli .c64 (ps.take i) t, .cpx .f32 (ps.getD i (0, 0)).1 (ps.getD i (0, 0)).2] (.bool false) := fun t => xContainsNo (by rw [List.length_take]; omega) (take_no H i g2)
    repeat (first
      | (refine ⟨⟨by kernel_rfl, by kernel_rfl⟩, ?_⟩; conv => whnf)
      | (refine And.intro (by first | omega | (simp; done) | (simp; omega)) ?_; conv => whnf)
      | (refine Or.inl (And.intro (by omega) ?_); conv => whnf)
      | (refine Exists.intro _ (And.intro (d1) ?_); conv => whnf)
      | (refine Exists.intro _ (And.intro (d2 _) ?_); conv => whnf))
    refine ⟨i + 1, id, ⟨g2, by dsimp only; omega⟩, rfl, ⟨rfl, rfl, rfl, rfl, rfl, rfl, trivial⟩, trivial⟩
  repeat (first
    | (refine ⟨⟨by kernel_rfl, by kernel_rfl⟩, ?_⟩; conv => whnf)
    | (refine And.intro (by first | omega | (simp; done) | (simp; omega)) ?_; conv => whnf)
    | (refine Or.inl (And.intro (by omega) ?_); conv => whnf))
  refine ⟨Nat, fun i => i ≤ k, fun i => [(0, .sli .c64 ps t), (1, .sli .f32 fs t'), (2, .cpx .f32 a.1 a.2), (56, .sli .c64 ps t), (57, .int .i64 ps.length), (58, .int .i64 i)], fun _ => [], fun i => ps.length - i, ⟨0, id, Nat.zero_le _, rfl, ⟨rfl, rfl, rfl, rfl, rfl, rfl, trivial⟩, trivial⟩, fun i hi => ?_⟩
  conv => whnf
  (refine br_intro (fun g3 => ?_) (fun g3 => ?_) <;> (conv => whnf))
  · have g3 : i < ps.length := by simp at g3; omega
    have d1 := @iLessC a (ps.getD i (0, 0))
    have d2 := @iLongOf (cDif a (ps.getD i (0, 0))) (H.tl i g3)
    repeat (first
      | (refine ⟨⟨by kernel_rfl, by kernel_rfl⟩, ?_⟩; conv => whnf)
      | (refine And.intro (by first | omega | (simp; done) | (simp; omega)) ?_; conv => whnf)
      | (refine Or.inl (And.intro (by omega) ?_); conv => whnf)
      | (refine Exists.intro _ (And.intro (d1) ?_); conv => whnf)
      | (refine Exists.intro _ (And.intro (d2) ?_); conv => whnf))
    (refine br_intro (fun g4 => ?_) (fun g4 => ?_) <;> (conv => whnf))
    · have g4 : nrZ ps a i = true := g4
      have : i = k := by
        apply Classical.byContradiction
        intro hne
        have := h2 i (by omega)
        rw [g4] at this; cases this
      subst this
      repeat (first
        | (refine ⟨⟨by kernel_rfl, by kernel_rfl⟩, ?_⟩; conv => whnf)
        | (refine And.intro (by first | omega | (simp; done) | (simp; omega)) ?_; conv => whnf)
        | (refine Or.inl (And.intro (by omega) ?_); conv => whnf))
      all_goals (first | rfl | trivial)
    · have g4 : nrZ ps a i = false := g4
      have : i ≠ k := fun e => by rw [e, h1] at g4; cases g4
      repeat (first
        | (refine ⟨⟨by kernel_rfl, by kernel_rfl⟩, ?_⟩; conv => whnf)
        | (refine And.intro (by first | omega | (simp; done) | (simp; omega)) ?_; conv => whnf)
        | (refine Or.inl (And.intro (by omega) ?_); conv => whnf))
      refine ⟨i + 1, id, ⟨by omega, by dsimp only; omega⟩, rfl, ⟨rfl, rfl, rfl, rfl, rfl, rfl, trivial⟩, trivial⟩
  · exfalso; simp at g3; omega
theorem iNearAll (h2 : ∀ j, j < ps.length → nrZ ps a j = false) (hq : fin (nrQ ps fs a) = true) :
    Does Try.prog 7 [.sli .c64 ps t, .sli .f32 fs t', .cpx .f32 a.1 a.2] (.tup [.flt .f32 (nrQ ps fs a), .bool true]) := by
  obtain ⟨l1, l2⟩ := H.len
  have lf := H.lf
  have c1 : Does Try.prog 24 [.int .i64 (ps.length : Int), .int .i64 1, .int .i64 24] (.bool true) := by
    have := @iWithin (ps.length : Int) 1 24
    rwa [show inR (ps.length : Int) 1 24 = true by simp [inR]; omega] at this
  have c2 : ∀ t, Does Try.prog 25 [.sli .f32 fs t] (.bool true) := fun t => H.ff ▸ iFinL (by omega)
  have c3 : Does Try.prog 26 [.cpx .f32 a.1 a.2] (.bool true) := H.fa ▸ iFinC
  refine Does.of_awp (X := cx 103) Try.func7 rfl (by kernel_rfl) rfl (by simp [cx]) [] rfl ?_
  conv => whnf
  repeat (first
    | (refine ⟨⟨by kernel_rfl, by kernel_rfl⟩, ?_⟩; conv => whnf)
    | (refine And.intro (by first | omega | (simp; done) | (simp; omega)) ?_; conv => whnf)
    | (refine Or.inl (And.intro (by omega) ?_); conv => whnf)
    | (refine Exists.intro _ (And.intro (c1) ?_); conv => whnf)
    | (refine Exists.intro _ (And.intro (c2 _) ?_); conv => whnf)
    | (refine Exists.intro _ (And.intro (c3) ?_); conv => whnf))
  (refine br_intro (fun g => ?_) (fun g => ?_) <;> (conv => whnf))
  · exfalso; simp at g; omega
  repeat (first
    | (refine ⟨⟨by kernel_rfl, by kernel_rfl⟩, ?_⟩; conv => whnf)
    | (refine And.intro (by first | omega | (simp; done) | (simp; omega)) ?_; conv => whnf)
    | (refine Or.inl (And.intro (by omega) ?_); conv => whnf)
    | (refine Exists.intro _ (And.intro (c1) ?_); conv => whnf)
    | (refine Exists.intro _ (And.intro (c2 _) ?_); conv => whnf)
    | (refine Exists.intro _ (And.intro (c3) ?_); conv => whnf))
  refine ⟨Nat, fun i => i ≤ ps.length, fun i => [(0, .sli .c64 ps t), (1, .sli .f32 fs t'), (2, .cpx .f32 a.1 a.2), (38, .sli .c64 ps t), (39, .int .i64 ps.length), (40, .int .i64 i)], fun _ => [], fun i => ps.length - i, ⟨0, id, Nat.zero_le _, rfl, ⟨rfl, rfl, rfl, rfl, rfl, rfl, trivial⟩, trivial⟩, fun i hi => ?_⟩
  conv => whnf
  (refine br_intro (fun g2 => ?_) (fun g2 => ?_) <;> (conv => whnf))
  · have g2 : i < ps.length := by simp at g2; omega
    have d1 : Does Try.prog 26 [.cpx .f32 (ps.getD i (0, 0)).1 (ps.getD i (0, 0)).2] (.bool true) := H.fp i g2 ▸ iFinC
    have d2 : ∀ t, Does Try.prog 27 [.sli .c64 (ps.take i) t, .cpx .f32 (ps.getD i (0, 0)).1 (ps.getD i (0, 0)).2] (.bool false) := fun t => xContainsNo (by rw [List.length_take]; omega) (take_no H i g2)
    repeat (first
      | (refine ⟨⟨by kernel_rfl, by kernel_rfl⟩, ?_⟩; conv => whnf)
      | (refine And.intro (by first | omega | (simp; done) | (simp; omega)) ?_; conv => whnf)
      | (refine Or.inl (And.intro (by omega) ?_); conv => whnf)
      | (refine Exists.intro _ (And.intro (d1) ?_); conv => whnf)
      | (refine Exists.intro _ (And.intro (d2 _) ?_); conv => whnf))
    refine ⟨i + 1, id, ⟨g2, by dsimp only; omega⟩, rfl, ⟨rfl, rfl, rfl, rfl, rfl, rfl, trivial⟩, trivial⟩
  repeat (first
    | (refine ⟨⟨by kernel_rfl, by kernel_rfl⟩, ?_⟩; conv => whnf)
    | (refine And.intro (by first | omega | (simp; done) | (simp; omega)) ?_; conv => whnf)
    | (refine Or.inl (And.intro (by omega) ?_); conv => whnf))
  refine ⟨Nat, fun i => i ≤ ps.length, fun i => [(0, .sli .c64 ps t), (1, .sli .f32 fs t'), (2, .cpx .f32 a.1 a.2), (56, .sli .c64 ps t), (57, .int .i64 ps.length), (58, .int .i64 i)], fun _ => [], fun i => ps.length - i, ⟨0, id, Nat.zero_le _, rfl, ⟨rfl, rfl, rfl, rfl, rfl, rfl, trivial⟩, trivial⟩, fun i hi => ?_⟩
  conv => whnf
  (refine br_intro (fun g3 => ?_) (fun g3 => ?_) <;> (conv => whnf))
  · have g3 : i < ps.length := by simp at g3; omega
    have d1 := @iLessC a (ps.getD i (0, 0))
    have d2 := @iLongOf (cDif a (ps.getD i (0, 0))) (H.tl i g3)
    repeat (first
      | (refine ⟨⟨by kernel_rfl, by kernel_rfl⟩, ?_⟩; conv => whnf)
      | (refine And.intro (by first | omega | (simp; done) | (simp; omega)) ?_; conv => whnf)
      | (refine Or.inl (And.intro (by omega) ?_); conv => whnf)
      | (refine Exists.intro _ (And.intro (d1) ?_); conv => whnf)
      | (refine Exists.intro _ (And.intro (d2) ?_); conv => whnf))
    (refine br_intro (fun g4 => ?_) (fun g4 => ?_) <;> (conv => whnf))
    · have g4 : nrZ ps a i = true := g4
      exfalso
      rw [h2 i g3] at g4; cases g4
    · repeat (first
        | (refine ⟨⟨by kernel_rfl, by kernel_rfl⟩, ?_⟩; conv => whnf)
        | (refine And.intro (by first | omega | (simp; done) | (simp; omega)) ?_; conv => whnf)
        | (refine Or.inl (And.intro (by omega) ?_); conv => whnf))
      refine ⟨i + 1, id, ⟨by omega, by dsimp only; omega⟩, rfl, ⟨rfl, rfl, rfl, rfl, rfl, rfl, trivial⟩, trivial⟩
  have g3 : i = ps.length := by simp at g3; omega
  subst g3
  repeat (first
    | (refine ⟨⟨by kernel_rfl, by kernel_rfl⟩, ?_⟩; conv => whnf)
    | (refine And.intro (by first | omega | (simp; done) | (simp; omega)) ?_; conv => whnf)
    | (refine Or.inl (And.intro (by omega) ?_); conv => whnf))
  refine ⟨Nat, fun i => i ≤ ps.length, fun i => [(0, .sli .c64 ps t), (1, .sli .f32 fs t'), (2, .cpx .f32 a.1 a.2), (12, .flt .f32 (nrS ps fs a i)), (13, .flt .f32 (nrA ps a i)), (73, .sli .c64 ps t), (74, .int .i64 ps.length), (75, .int .i64 i)], fun _ => [], fun i => ps.length - i, ⟨0, id, Nat.zero_le _, rfl, ⟨rfl, rfl, rfl, rfl, rfl, rfl, rfl, rfl, trivial⟩, trivial⟩, fun i hi => ?_⟩
  conv => whnf
  (refine br_intro (fun g5 => ?_) (fun g5 => ?_) <;> (conv => whnf))
  · have g5 : i < ps.length := by simp at g5; omega
    have d1 := @iLessC a (ps.getD i (0, 0))
    have d2 := @iPowerOf (cDif a (ps.getD i (0, 0))) (H.tp i g5)
    repeat (first
      | (refine ⟨⟨by kernel_rfl, by kernel_rfl⟩, ?_⟩; conv => whnf)
      | (refine And.intro (by first | omega | (simp; done) | (simp; omega)) ?_; conv => whnf)
      | (refine Or.inl (And.intro (by omega) ?_); conv => whnf)
      | (refine Exists.intro _ (And.intro (d1) ?_); conv => whnf)
      | (refine Exists.intro _ (And.intro (d2) ?_); conv => whnf))
    refine ⟨i + 1, id, ⟨by omega, by dsimp only; omega⟩, rfl, ⟨rfl, rfl, rfl, rfl, rfl, rfl, rfl, rfl, trivial⟩, trivial⟩
  have g5 : i = ps.length := by simp at g5; omega
  subst g5
  have e := @iNumber (nrQ ps fs a)
  rw [hq] at e
  repeat (first
    | (refine ⟨⟨by kernel_rfl, by kernel_rfl⟩, ?_⟩; conv => whnf)
    | (refine And.intro (by first | omega | (simp; done) | (simp; omega)) ?_; conv => whnf)
    | (refine Or.inl (And.intro (by omega) ?_); conv => whnf)
    | (refine Exists.intro _ (And.intro (e) ?_); conv => whnf))
  all_goals (first | rfl | trivial)
end

end Go.Proofs.Ytnepjbnoaemmdaa
