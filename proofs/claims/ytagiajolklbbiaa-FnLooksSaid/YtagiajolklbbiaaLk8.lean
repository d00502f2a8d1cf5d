/- What each function of this seat does (Lk8). Printed from templates of this seat's own. -/
import Derived.Test.YtagiajolklbbiaaR8b
namespace Go.Proofs.Ytagiajolklbbiaa
open Go.Ax Go.Bx
set_option maxRecDepth 8000
set_option linter.unusedSimpArgs false
set_option linter.unusedVariables false

noncomputable def lwN (X : List Nat) : Nat → Nat
  | 0 => X.getD 0 0
  | i + 1 => fminA .f32 (lwN X i) (X.getD i 0)
noncomputable def hgN (X : List Nat) : Nat → Nat
  | 0 => X.getD 0 0
  | i + 1 => fmaxA .f32 (hgN X i) (X.getD i 0)
noncomputable def dvN (a c : Int) (d : Nat) : Nat := fop .quo .f32 (foi .f32 (a - c)) d
set_option maxHeartbeats 2000000 in
theorem looksWalk {bs cs : List Int} {w v : Nat} {X A B C M F S Wl Co : List Nat} {sd a b k : Int} {V : Nat} (hn : 0 < X.length ∧ X.length ≤ 256) (lM : M.length = X.length) (lS : S.length = 12) (lC : Co.length = 9)
    (e0 : ∀ t t', Does Try.prog 4 [.sli (.int .u8) bs t, .sli (.int .u8) cs t'] (.bool false))
    (a1 : ∀ t, Does Try.prog 5 [.sli (.int .u8) bs t] (.agg [.int .i64 w, .int .i64 v, .own 0 .f32 X]))
    (t1 : ∀ t, Does Try.prog 6 [.agg [.int .i64 w, .int .i64 v, .sli .f32 X t]] (.tup [.agg [.int .i64 v, .int .i64 w, .own 0 .f32 A], .bool true]))
    (t2 : ∀ t, Does Try.prog 6 [.agg [.int .i64 v, .int .i64 w, .sli .f32 A t]] (.tup [.agg [.int .i64 w, .int .i64 v, .own 0 .f32 B], .bool true]))
    (t3 : ∀ t, Does Try.prog 6 [.agg [.int .i64 w, .int .i64 v, .sli .f32 B t]] (.tup [.agg [.int .i64 v, .int .i64 w, .own 0 .f32 C], .bool true]))
    (t4 : ∀ t, Does Try.prog 6 [.agg [.int .i64 v, .int .i64 w, .sli .f32 C t]] (.tup [.agg [.int .i64 w, .int .i64 v, .own 0 .f32 X], .bool true]))
    (a2 : ∀ t, Does Try.prog 7 [.agg [.int .i64 w, .int .i64 v, .sli .f32 X t]] (.tup [.agg [.int .i64 w, .int .i64 v, .own 0 .f32 M], .bool true]))
    (a3 : ∀ t, Does Try.prog 8 [.agg [.int .i64 w, .int .i64 v, .sli .f32 X t], .flt .f32 (canon .f32 0), .int .i64 77] (.tup [.agg [.int .i64 w, .int .i64 v, .own 0 .f32 X], .int .i64 sd, .bool true]))
    (a4 : ∀ t, Does Try.prog 9 [.agg [.int .i64 w, .int .i64 v, .sli .f32 X t], .flt .f32 (canon .f32 0)] (.tup [.agg [.int .i64 w, .int .i64 v, .own 0 .f32 F], .bool true]))
    (a5 : ∀ t t', Does Try.prog 10 [.agg [.int .i64 w, .int .i64 v, .sli .f32 X t], .agg [.int .i64 w, .int .i64 v, .sli .f32 F t']] (.tup [.agg [.int .i64 w, .int .i64 v, .own 0 .f32 X], .bool true]))
    (a6 : ∀ t t', Does Try.prog 11 [.agg [.int .i64 w, .int .i64 v, .sli .f32 X t], .agg [.int .i64 w, .int .i64 v, .sli .f32 X t']] (.bool true))
    (hsd : sd ≠ 77)
    (sm : ∀ i, i < X.length → fcmp .lss .f64 (fwiden (M.getD i 0)) (fop .sub .f64 (fwiden (lwN X X.length)) (canon .f64 4562254508917369340)) = false ∧ fcmp .gtr .f64 (fwiden (M.getD i 0)) (fop .add .f64 (fwiden (hgN X X.length)) (canon .f64 4562254508917369340)) = false)
    (b1 : ∀ t, Does Try.prog 12 [.sli (.int .u8) cs t, .int .i64 0, .int .i64 17] (.int .i64 a)) (ra : 0 ≤ a ∧ a < 17)
    (b2 : ∀ t, Does Try.prog 12 [.sli (.int .u8) cs t, .int .i64 1, .int .i64 17] (.int .i64 b)) (rb : 0 ≤ b ∧ b < 17)
    (b3 : ∀ t, Does Try.prog 12 [.sli (.int .u8) cs t, .int .i64 2, .int .i64 16] (.int .i64 k)) (rk : 0 ≤ k ∧ k < 16)
    (a7 : Does Try.prog 13 [.int .i64 4, .int .i64 3, .flt .f32 (canon .f32 1065353216), .flt .f32 (dvN a 8 (canon .f32 1082130432)), .flt .f32 (dvN b 8 (canon .f32 1082130432))] (.tup [.agg [.int .i64 4, .int .i64 3, .own 0 .f32 S], .bool true]))
    (a8 : ∀ t, Does Try.prog 14 [.agg [.int .i64 4, .int .i64 3, .sli .f32 S t], .flt .f32 (fop .quo .f32 (foi .f32 k) (canon .f32 1098907648)), .flt .f32 (canon .f32 1065353216)] (.tup [.own 0 .f32 (tabN (fun _ => V) 12), .bool true]))
    (a9 : ∀ i, i < 12 → ∀ t, Does Try.prog 15 [.agg [.int .i64 4, .int .i64 3, .sli .f32 S t], .int .i64 (i : Nat)] (.tup [.cpx .f32 (dvN a 8 (canon .f32 1082130432)) (dvN b 8 (canon .f32 1082130432)), .bool true]))
    (nE : fcmp .neq .f32 (dvN a 8 (canon .f32 1082130432)) (dvN a 8 (canon .f32 1082130432)) = false) (nS : fcmp .neq .f32 (dvN b 8 (canon .f32 1082130432)) (dvN b 8 (canon .f32 1082130432)) = false)
    (v1 : fcmp .lss .f32 V (canon .f32 0) = false) (v2 : fcmp .gtr .f64 (fwiden V) (canon .f64 4607186922399644778) = false) (v3 : fcmp .neq .f32 V V = false)
    (s1 : ∀ t, Does Try.prog 16 [.agg [.int .i64 4, .int .i64 3, .sli .f32 S t], .int .i64 0, .int .i64 3, .flt .f32 (canon .f32 1048576000)] (.tup [.bool true, .bool true]))
    (s2 : ∀ t, Does Try.prog 16 [.agg [.int .i64 4, .int .i64 3, .sli .f32 S t], .int .i64 8, .int .i64 0, .flt .f32 (canon .f32 1048576000)] (.tup [.bool true, .bool true]))
    (s3 : ∀ t, Does Try.prog 16 [.agg [.int .i64 4, .int .i64 3, .sli .f32 S t], .int .i64 0, .int .i64 5, .flt .f32 (canon .f32 1065353216)] (.tup [.bool false, .bool false]))
    (a10 : ∀ t t', Does Try.prog 17 [.agg [.int .i64 4, .int .i64 3, .sli .f32 S t], .sli (.int .i64) [1] t', .flt .f32 (canon .f32 3246391296)] (.tup [.agg [.int .i64 4, .int .i64 3, .own 0 .f32 Wl], .bool true]))
    (s4 : ∀ t, Does Try.prog 16 [.agg [.int .i64 4, .int .i64 3, .sli .f32 Wl t], .int .i64 0, .int .i64 3, .flt .f32 (canon .f32 1048576000)] (.tup [.bool false, .bool true]))
    (a11 : Does Try.prog 18 [.int .i64 3, .int .i64 3, .flt .f32 (canon .f32 1073741824), .flt .f32 (canon .f32 1065353216)] (.tup [.agg [.int .i64 3, .int .i64 3, .own 0 .f32 Co], .bool true]))
    (c4 : fcmp .eql .f32 (Co.getD 4 0) (canon .f32 1073741824) = true) (c1 : fcmp .eql .f32 (Co.getD 1 0) (canon .f32 1065353216) = true) :
    Does Try.prog 3 [.sli (.int .u8) bs .undef, .sli (.int .u8) cs .undef] (.bool true) := by
  have fin1 : ∀ {b : Bool}, b = false → b = true → False := fun h g => by rw [h] at g; cases g
  refine Does.of_awp (X := cx 377) Try.func3 rfl (by kernel_rfl) rfl (by simp [cx]) [] rfl ?_
  conv => whnf
  repeat (first
    | (refine ⟨⟨by kernel_rfl, by kernel_rfl⟩, ?_⟩; conv => whnf)
    | (refine And.intro (by first | omega | (simp; done) | (simp; omega)) ?_; conv => whnf)
    | (refine Or.inl (And.intro (by omega) ?_); conv => whnf)
    | (refine Exists.intro _ (And.intro (e0 _ _) ?_); conv => whnf)
    | (refine Exists.intro _ (And.intro (a1 _) ?_); conv => whnf)
    | (refine Exists.intro _ (And.intro (t1 _) ?_); conv => whnf)
    | (refine Exists.intro _ (And.intro (t2 _) ?_); conv => whnf)
    | (refine Exists.intro _ (And.intro (t3 _) ?_); conv => whnf)
    | (refine Exists.intro _ (And.intro (t4 _) ?_); conv => whnf)
    | (refine Exists.intro _ (And.intro (a2 _) ?_); conv => whnf)
    | (refine Exists.intro _ (And.intro (a3 _) ?_); conv => whnf)
    | (refine Exists.intro _ (And.intro (a4 _) ?_); conv => whnf)
    | (refine Exists.intro _ (And.intro (a5 _ _) ?_); conv => whnf)
    | (refine Exists.intro _ (And.intro (a6 _ _) ?_); conv => whnf))
  (refine br_intro (fun x1 => ?_) (fun x1 => ?_) <;> (conv => whnf))
  · exfalso; simp at x1; exact hsd x1
  repeat (first
    | (refine ⟨⟨by kernel_rfl, by kernel_rfl⟩, ?_⟩; conv => whnf)
    | (refine And.intro (by first | omega | (simp; done) | (simp; omega)) ?_; conv => whnf)
    | (refine Or.inl (And.intro (by omega) ?_); conv => whnf))
  (refine br_intro (fun x2 => ?_) (fun x2 => ?_) <;> (conv => whnf))
  · exfalso; simp at x2
  repeat (first
    | (refine ⟨⟨by kernel_rfl, by kernel_rfl⟩, ?_⟩; conv => whnf)
    | (refine And.intro (by first | omega | (simp; done) | (simp; omega)) ?_; conv => whnf)
    | (refine Or.inl (And.intro (by omega) ?_); conv => whnf))
  (refine br_intro (fun x3 => ?_) (fun x3 => ?_) <;> (conv => whnf))
  · exfalso; simp at x3; omega
  repeat (first
    | (refine ⟨⟨by kernel_rfl, by kernel_rfl⟩, ?_⟩; conv => whnf)
    | (refine And.intro (by first | omega | (simp; done) | (simp; omega)) ?_; conv => whnf)
    | (refine Or.inl (And.intro (by omega) ?_); conv => whnf))
  refine ⟨Nat, fun i => i ≤ X.length, fun i => [(1, .sli (.int .u8) cs .undef), (5, .loc 20 0), (14, .loc 56 0), (23, .flt .f32 (lwN X i)), (24, .flt .f32 (hgN X i)), (25, .int .i64 i)], fun i => [(20, .av [.int .i64 w, .int .i64 v, .osl 208]), (208, .tab .f32 X), (56, .av [.int .i64 w, .int .i64 v, .osl 300]), (300, .tab .f32 M)], fun i => X.length - i, ⟨0, id, Nat.zero_le _, rfl, ⟨rfl, rfl, rfl, rfl, rfl, rfl, trivial⟩, ⟨rfl, rfl, rfl, rfl, trivial⟩⟩, fun i hi => ?_⟩
  dsimp only at hi
  conv => whnf
  (refine br_intro (fun h => ?_) (fun h => ?_) <;> (conv => whnf))
  · have h : i < X.length := by simp at h; omega
    repeat (first
      | (refine ⟨⟨by kernel_rfl, by kernel_rfl⟩, ?_⟩; conv => whnf)
      | (refine And.intro (by first | omega | (simp; done) | (simp; omega)) ?_; conv => whnf)
      | (refine Or.inl (And.intro (by omega) ?_); conv => whnf))
    refine ⟨i + 1, id, ⟨h, by dsimp only; omega⟩, rfl, ⟨rfl, rfl, rfl, rfl, rfl, rfl, trivial⟩, ⟨rfl, rfl, rfl, rfl, trivial⟩⟩
  have h : i = X.length := by simp at h; omega
  subst h
  as_aux_lemma =>
    repeat (first
      | (refine ⟨⟨by kernel_rfl, by kernel_rfl⟩, ?_⟩; conv => whnf)
      | (refine And.intro (by first | omega | (simp; done) | (simp; omega)) ?_; conv => whnf)
      | (refine Or.inl (And.intro (by omega) ?_); conv => whnf))
    refine ⟨Nat, fun i => i ≤ X.length, fun i => [(1, .sli (.int .u8) cs .undef), (5, .loc 20 0), (14, .loc 56 0), (23, .flt .f32 (lwN X X.length)), (24, .flt .f32 (hgN X X.length)), (26, .int .i64 i)], fun i => [(20, .av [.int .i64 w, .int .i64 v, .osl 208]), (208, .tab .f32 X), (56, .av [.int .i64 w, .int .i64 v, .osl 300]), (300, .tab .f32 M)], fun i => X.length - i, ⟨0, id, Nat.zero_le _, rfl, ⟨rfl, rfl, rfl, rfl, rfl, rfl, trivial⟩, ⟨rfl, rfl, rfl, rfl, trivial⟩⟩, fun i hi => ?_⟩
    dsimp only at hi
    conv => whnf
    (refine br_intro (fun h => ?_) (fun h => ?_) <;> (conv => whnf))
    · have h : i < X.length := by simp at h; omega
      obtain ⟨q1, q2⟩ := sm i h
      repeat (first
        | (refine ⟨⟨by kernel_rfl, by kernel_rfl⟩, ?_⟩; conv => whnf)
        | (refine And.intro (by first | omega | (simp; done) | (simp; omega)) ?_; conv => whnf)
        | (refine Or.inl (And.intro (by omega) ?_); conv => whnf))
      (refine br_intro (fun y1 => ?_) (fun y1 => ?_) <;> (conv => whnf))
      · exact (fin1 q1 y1).elim
      repeat (first
        | (refine ⟨⟨by kernel_rfl, by kernel_rfl⟩, ?_⟩; conv => whnf)
        | (refine And.intro (by first | omega | (simp; done) | (simp; omega)) ?_; conv => whnf)
        | (refine Or.inl (And.intro (by omega) ?_); conv => whnf))
      (refine br_intro (fun y2 => ?_) (fun y2 => ?_) <;> (conv => whnf))
      · exact (fin1 q2 y2).elim
      repeat (first
        | (refine ⟨⟨by kernel_rfl, by kernel_rfl⟩, ?_⟩; conv => whnf)
        | (refine And.intro (by first | omega | (simp; done) | (simp; omega)) ?_; conv => whnf)
        | (refine Or.inl (And.intro (by omega) ?_); conv => whnf))
      refine ⟨i + 1, id, ⟨h, by dsimp only; omega⟩, rfl, ⟨rfl, rfl, rfl, rfl, rfl, rfl, trivial⟩, ⟨rfl, rfl, rfl, rfl, trivial⟩⟩
    have h : i = X.length := by simp at h; omega
    subst h
    as_aux_lemma =>
      have a7 : Does Try.prog 13 [.int .i64 4, .int .i64 3, .flt .f32 (canon .f32 1065353216), .flt .f32 (fop .quo .f32 (foi .f32 (a - 8)) (canon .f32 1082130432)), .flt .f32 (fop .quo .f32 (foi .f32 (b - 8)) (canon .f32 1082130432))] (.tup [.agg [.int .i64 4, .int .i64 3, .own 0 .f32 S], .bool true]) := a7
      have lV : (tabN (fun _ => V) 12).length = 12 := tabN_len _ _
      repeat (first
        | (refine ⟨⟨by kernel_rfl, by kernel_rfl⟩, ?_⟩; conv => whnf)
        | (refine And.intro (by first | omega | (simp; done) | (simp; omega)) ?_; conv => whnf)
        | (refine Or.inl (And.intro (by omega) ?_); conv => whnf)
        | (refine Exists.intro _ (And.intro (b1 _) ?_); conv => whnf)
        | (refine Exists.intro _ (And.intro (b2 _) ?_); conv => whnf)
        | (refine Exists.intro _ (And.intro (b3 _) ?_); conv => whnf)
        | (refine Exists.intro _ (And.intro (a7) ?_); conv => whnf)
        | (refine Exists.intro _ (And.intro (a8 _) ?_); conv => whnf))
      refine ⟨Nat, fun i => i ≤ 12, fun i => [(27, .flt .f32 (fop .quo .f32 (foi .f32 (a - 8)) (canon .f32 1082130432))), (28, .flt .f32 (fop .quo .f32 (foi .f32 (b - 8)) (canon .f32 1082130432))), (29, .loc 116 0), (31, .osl 972), (33, .int .i64 i)], fun i => [(116, .av [.int .i64 4, .int .i64 3, .osl 936]), (936, .tab .f32 S), (972, .tab .f32 (tabN (fun _ => V) 12))], fun i => 12 - i, ⟨0, id, Nat.zero_le _, rfl, ⟨rfl, rfl, rfl, rfl, rfl, trivial⟩, ⟨rfl, rfl, rfl, trivial⟩⟩, fun i hi => ?_⟩
      dsimp only at hi
      conv => whnf
      (refine br_intro (fun h => ?_) (fun h => ?_) <;> (conv => whnf))
      · have h : i < 12 := by simp at h; omega
        have e9 := a9 i h
        have g0 : (tabN (fun _ => V) 12).getD i 0 = V := tabN_getD (fun _ => V) h 0
        have g1 : (tabN (fun _ => V) 12).getD 0 0 = V := tabN_getD (fun _ => V) (show 0 < 12 by omega) 0
        generalize tabN (fun _ => V) 12 = T at *
        have v1 : fcmp .lss .f32 (T.getD i 0) (canon .f32 0) = false := by rw [g0]; exact v1
        have v2 : fcmp .gtr .f64 (fwiden (T.getD i 0)) (canon .f64 4607186922399644778) = false := by rw [g0]; exact v2
        have v3 : fcmp .neq .f32 (T.getD i 0) (T.getD 0 0) = false := by rw [g0, g1]; exact v3
        repeat (first
          | (refine ⟨⟨by kernel_rfl, by kernel_rfl⟩, ?_⟩; conv => whnf)
          | (refine And.intro (by first | omega | (simp; done) | (simp; omega)) ?_; conv => whnf)
          | (refine Or.inl (And.intro (by omega) ?_); conv => whnf)
          | (refine Exists.intro _ (And.intro (e9 _) ?_); conv => whnf))
        (refine br_intro (fun y1 => ?_) (fun y1 => ?_) <;> (conv => whnf))
        · exact (fin1 nE y1).elim
        repeat (first
          | (refine ⟨⟨by kernel_rfl, by kernel_rfl⟩, ?_⟩; conv => whnf)
          | (refine And.intro (by first | omega | (simp; done) | (simp; omega)) ?_; conv => whnf)
          | (refine Or.inl (And.intro (by omega) ?_); conv => whnf))
        (refine br_intro (fun y2 => ?_) (fun y2 => ?_) <;> (conv => whnf))
        · exact (fin1 nS y2).elim
        repeat (first
          | (refine ⟨⟨by kernel_rfl, by kernel_rfl⟩, ?_⟩; conv => whnf)
          | (refine And.intro (by first | omega | (simp; done) | (simp; omega)) ?_; conv => whnf)
          | (refine Or.inl (And.intro (by omega) ?_); conv => whnf))
        (refine br_intro (fun y3 => ?_) (fun y3 => ?_) <;> (conv => whnf))
        · exact (fin1 v1 y3).elim
        repeat (first
          | (refine ⟨⟨by kernel_rfl, by kernel_rfl⟩, ?_⟩; conv => whnf)
          | (refine And.intro (by first | omega | (simp; done) | (simp; omega)) ?_; conv => whnf)
          | (refine Or.inl (And.intro (by omega) ?_); conv => whnf))
        (refine br_intro (fun y4 => ?_) (fun y4 => ?_) <;> (conv => whnf))
        · exact (fin1 v2 y4).elim
        repeat (first
          | (refine ⟨⟨by kernel_rfl, by kernel_rfl⟩, ?_⟩; conv => whnf)
          | (refine And.intro (by first | omega | (simp; done) | (simp; omega)) ?_; conv => whnf)
          | (refine Or.inl (And.intro (by omega) ?_); conv => whnf))
        (refine br_intro (fun y5 => ?_) (fun y5 => ?_) <;> (conv => whnf))
        · exact (fin1 v3 y5).elim
        repeat (first
          | (refine ⟨⟨by kernel_rfl, by kernel_rfl⟩, ?_⟩; conv => whnf)
          | (refine And.intro (by first | omega | (simp; done) | (simp; omega)) ?_; conv => whnf)
          | (refine Or.inl (And.intro (by omega) ?_); conv => whnf))
        refine ⟨i + 1, id, ⟨h, by dsimp only; omega⟩, rfl, ⟨rfl, rfl, rfl, rfl, rfl, trivial⟩, ⟨rfl, rfl, rfl, trivial⟩⟩
      have h : i = 12 := by simp at h; omega
      subst h
      as_aux_lemma =>
        repeat (first
          | (refine ⟨⟨by kernel_rfl, by kernel_rfl⟩, ?_⟩; conv => whnf)
          | (refine And.intro (by first | omega | (simp; done) | (simp; omega)) ?_; conv => whnf)
          | (refine Or.inl (And.intro (by omega) ?_); conv => whnf)
          | (refine Exists.intro _ (And.intro (s1 _) ?_); conv => whnf)
          | (refine Exists.intro _ (And.intro (s2 _) ?_); conv => whnf)
          | (refine Exists.intro _ (And.intro (s3 _) ?_); conv => whnf)
          | (refine Exists.intro _ (And.intro (a10 _ _) ?_); conv => whnf)
          | (refine Exists.intro _ (And.intro (s4 _) ?_); conv => whnf)
          | (refine Exists.intro _ (And.intro (a11) ?_); conv => whnf))
        (refine br_intro (fun z1 => ?_) (fun z1 => ?_) <;> (conv => whnf))
        · repeat (first
            | (refine ⟨⟨by kernel_rfl, by kernel_rfl⟩, ?_⟩; conv => whnf)
            | (refine And.intro (by first | omega | (simp; done) | (simp; omega)) ?_; conv => whnf)
            | (refine Or.inl (And.intro (by omega) ?_); conv => whnf))
          exact congrArg AV.bool c1
        · have z1 : fcmp .eql .f32 (Co.getD 4 0) (canon .f32 1073741824) = false := z1
          rw [c4] at z1; cases z1

end Go.Proofs.Ytagiajolklbbiaa
