/- What each function of this seat does (Lk4). Printed from templates of this seat's own. -/
import Derived.Test.YtagiajolklbbiaaR8b
namespace Go.Proofs.Ytagiajolklbbiaa
open Go.Ax Go.Bx
set_option maxRecDepth 8000
set_option linter.unusedSimpArgs false
set_option linter.unusedVariables false

theorem iCell' {W H c : Int} {xs : List Nat} {t : AV} (h0 : hillB W H xs = true) (hc : inR c 0 (W * H - 1) = true) : Does Try.prog 39 [.agg [.int .i64 W, .int .i64 H, .sli .f32 xs t], .int .i64 c] (.bool true) := by
  obtain ⟨g1, g2, g3, g4, g5, g6, g7⟩ := hill_len h0
  have e1 : ∀ t, Does Try.prog 21 [.agg [.int .i64 W, .int .i64 H, .sli .f32 xs t]] (.bool true) := fun t => h0 ▸ iIs (by omega)
  rw [← g5] at hc
  have e2 : Does Try.prog 47 [.int .i64 c, .int .i64 0, .int .i64 ((xs.length : Int) - 1)] (.bool true) := hc ▸ iWithin
  refine Does.of_awp (X := cx 15) Try.func39 rfl (by kernel_rfl) rfl (by simp [cx]) [] rfl ?_
  conv => whnf
  repeat (first
    | (refine ⟨⟨by kernel_rfl, by kernel_rfl⟩, ?_⟩; conv => whnf)
    | (refine And.intro (by first | omega | (simp; done) | (simp; omega)) ?_; conv => whnf)
    | (refine Or.inl (And.intro (by omega) ?_); conv => whnf)
    | (refine Exists.intro _ (And.intro (e1 _) ?_); conv => whnf)
    | (refine Exists.intro _ (And.intro (e2) ?_); conv => whnf))
  all_goals (first | rfl | trivial)

theorem iFinC {a b : Nat} (ha : fin a = true) (hb : fin b = true) : Does Try.prog 40 [.cpx .f32 a b] (.bool true) := by
  have e1 : Does Try.prog 26 [.flt .f32 a] (.bool true) := ha ▸ iIsFinite
  have e2 : Does Try.prog 26 [.flt .f32 b] (.bool true) := hb ▸ iIsFinite
  refine Does.of_awp (X := cx 11) Try.func40 rfl (by kernel_rfl) rfl (by simp [cx]) [] rfl ?_
  conv => whnf
  repeat (first
    | (refine ⟨⟨by kernel_rfl, by kernel_rfl⟩, ?_⟩; conv => whnf)
    | (refine And.intro (by first | omega | (simp; done) | (simp; omega)) ?_; conv => whnf)
    | (refine Or.inl (And.intro (by omega) ?_); conv => whnf)
    | (refine Exists.intro _ (And.intro (e1) ?_); conv => whnf)
    | (refine Exists.intro _ (And.intro (e2) ?_); conv => whnf))
  all_goals (first | rfl | trivial)

theorem iRise {X : List Nat} {W H i at' last step : Int} {t : AV} (hi : 0 ≤ i ∧ i < X.length) (hs : 1 ≤ step ∧ step ≤ 16) (hn : X.length ≤ 256) {a b : Int} (ha : a = if at' > 0 then i - step else i) (hb : b = if at' < last then i + step else i) (ra : 0 ≤ a) (rb : b < X.length) (hd : at' > 0 ∨ at' < last) : Does Try.prog 59 [.agg [.int .i64 W, .int .i64 H, .sli .f32 X t], .int .i64 i, .int .i64 at', .int .i64 last, .int .i64 step] (.flt .f32 (fop .quo .f32 (fop .sub .f32 (X.getD b.toNat 0) (X.getD a.toNat 0)) (foi .f32 ((b - a) / step)))) := by
  by_cases c1 : at' > 0
  · rw [if_pos c1] at ha
    by_cases c2 : at' < last
    · rw [if_pos c2] at hb
      subst ha hb
      refine Does.of_awp (X := cx 47) Try.func59 rfl (by kernel_rfl) rfl (by simp [cx]) [] rfl ?_
      conv => whnf
      repeat (first
        | (refine ⟨⟨by kernel_rfl, by kernel_rfl⟩, ?_⟩; conv => whnf)
        | (refine And.intro (by first | omega | (simp; done) | (simp; omega)) ?_; conv => whnf)
        | (refine Or.inl (And.intro (by omega) ?_); conv => whnf)
        | (refine br_intro (fun h => by exfalso; first | (simp at h; done) | (simp at h; omega) | omega) (fun _ => ?_); conv => whnf)
        | (refine br_intro (fun _ => ?_) (fun h => by exfalso; first | (simp at h; done) | (simp at h; omega) | omega); conv => whnf))
      all_goals (first | rfl | trivial)
    · rw [if_neg c2] at hb
      subst ha hb
      refine Does.of_awp (X := cx 47) Try.func59 rfl (by kernel_rfl) rfl (by simp [cx]) [] rfl ?_
      conv => whnf
      repeat (first
        | (refine ⟨⟨by kernel_rfl, by kernel_rfl⟩, ?_⟩; conv => whnf)
        | (refine And.intro (by first | omega | (simp; done) | (simp; omega)) ?_; conv => whnf)
        | (refine Or.inl (And.intro (by omega) ?_); conv => whnf)
        | (refine br_intro (fun h => by exfalso; first | (simp at h; done) | (simp at h; omega) | omega) (fun _ => ?_); conv => whnf)
        | (refine br_intro (fun _ => ?_) (fun h => by exfalso; first | (simp at h; done) | (simp at h; omega) | omega); conv => whnf))
      all_goals (first | rfl | trivial)
  · rw [if_neg c1] at ha
    have c2 : at' < last := hd.resolve_left c1
    rw [if_pos c2] at hb
    subst ha hb
    refine Does.of_awp (X := cx 47) Try.func59 rfl (by kernel_rfl) rfl (by simp [cx]) [] rfl ?_
    conv => whnf
    repeat (first
      | (refine ⟨⟨by kernel_rfl, by kernel_rfl⟩, ?_⟩; conv => whnf)
      | (refine And.intro (by first | omega | (simp; done) | (simp; omega)) ?_; conv => whnf)
      | (refine Or.inl (And.intro (by omega) ?_); conv => whnf)
      | (refine br_intro (fun h => by exfalso; first | (simp at h; done) | (simp at h; omega) | omega) (fun _ => ?_); conv => whnf)
      | (refine br_intro (fun _ => ?_) (fun h => by exfalso; first | (simp at h; done) | (simp at h; omega) | omega); conv => whnf))
    all_goals (first | rfl | trivial)

theorem iTilt {X : List Nat} {i : Nat} {r1 r2 : Nat} {t : AV} (hi : i < 12) (h1 : ∀ t, Does Try.prog 59 [.agg [.int .i64 4, .int .i64 3, .sli .f32 X t], .int .i64 i, .int .i64 ((i : Int) % 4), .int .i64 3, .int .i64 1] (.flt .f32 r1)) (h2 : ∀ t, Does Try.prog 59 [.agg [.int .i64 4, .int .i64 3, .sli .f32 X t], .int .i64 i, .int .i64 ((i : Int) / 4), .int .i64 2, .int .i64 4] (.flt .f32 r2)) : Does Try.prog 41 [.agg [.int .i64 4, .int .i64 3, .sli .f32 X t], .int .i64 i] (.cpx .f32 r1 r2) := by
  refine Does.of_awp (X := cx 28) Try.func41 rfl (by kernel_rfl) rfl (by simp [cx]) [] rfl ?_
  conv => whnf
  repeat (first
    | (refine ⟨⟨by kernel_rfl, by kernel_rfl⟩, ?_⟩; conv => whnf)
    | (refine And.intro (by first | omega | (simp; done) | (simp; omega)) ?_; conv => whnf)
    | (refine Or.inl (And.intro (by omega) ?_); conv => whnf)
    | (refine Exists.intro _ (And.intro (h1 _) ?_); conv => whnf)
    | (refine Exists.intro _ (And.intro (h2 _) ?_); conv => whnf))
  all_goals (first | rfl | trivial)

theorem iTiltAt {X : List Nat} {i : Nat} {r1 r2 : Nat} {t : AV} (h0 : hillB 4 3 X = true) (hi : i < 12) (f1 : fin r1 = true) (f2 : fin r2 = true) (ht : ∀ t, Does Try.prog 41 [.agg [.int .i64 4, .int .i64 3, .sli .f32 X t], .int .i64 i] (.cpx .f32 r1 r2)) : Does Try.prog 15 [.agg [.int .i64 4, .int .i64 3, .sli .f32 X t], .int .i64 i] (.tup [.cpx .f32 r1 r2, .bool true]) := by
  have e1 : ∀ t, Does Try.prog 39 [.agg [.int .i64 4, .int .i64 3, .sli .f32 X t], .int .i64 i] (.bool true) := fun t => iCell' h0 (by simp [inR]; omega)
  have e2 := iFinC f1 f2
  refine Does.of_awp (X := cx 20) Try.func15 rfl (by kernel_rfl) rfl (by simp [cx]) [] rfl ?_
  conv => whnf
  repeat (first
    | (refine ⟨⟨by kernel_rfl, by kernel_rfl⟩, ?_⟩; conv => whnf)
    | (refine And.intro (by first | omega | (simp; done) | (simp; omega)) ?_; conv => whnf)
    | (refine Or.inl (And.intro (by omega) ?_); conv => whnf)
    | (refine Exists.intro _ (And.intro (e1 _) ?_); conv => whnf)
    | (refine Exists.intro _ (And.intro (ht _) ?_); conv => whnf)
    | (refine Exists.intro _ (And.intro (e2) ?_); conv => whnf))
  all_goals (first | rfl | trivial)

noncomputable def seE (X : List Nat) (i eye : Nat) : Nat := fop .add .f32 (X.getD i 0) eye
noncomputable def seL (X : List Nat) (i k far eye n : Nat) : Nat := fop .add .f32 (seE X i eye) (fop .mul .f32 (fop .quo .f32 (foi .f32 (n : Int)) (foi .f32 (far : Int))) (fop .sub .f32 (X.getD k 0) (seE X i eye)))
noncomputable def seS (X : List Nat) (i k far eye : Nat) (step : Int) : Nat → Bool
  | 0 => true
  | n + 1 => seS X i k far eye step n && !(fcmp .gtr .f32 (X.getD ((i : Int) + ((n + 1 : Nat) : Int) * step).toNat 0) (seL X i k far eye (n + 1)))
theorem iSees05 {X : List Nat} {eye : Nat} {t : AV} (h0 : hillB 4 3 X = true) (he : fin eye = true) : Does Try.prog 16 [.agg [.int .i64 4, .int .i64 3, .sli .f32 X t], .int .i64 0, .int .i64 5, .flt .f32 eye] (.tup [.bool false, .bool false]) := by
  have e1 : ∀ t, Does Try.prog 39 [.agg [.int .i64 4, .int .i64 3, .sli .f32 X t], .int .i64 0] (.bool true) := fun t => iCell' h0 (by decide)
  have e2 : ∀ t, Does Try.prog 39 [.agg [.int .i64 4, .int .i64 3, .sli .f32 X t], .int .i64 5] (.bool true) := fun t => iCell' h0 (by decide)
  have e3 : Does Try.prog 26 [.flt .f32 eye] (.bool true) := he ▸ iIsFinite
  refine Does.of_awp (X := cx 122) Try.func16 rfl (by kernel_rfl) rfl (by simp [cx]) [] rfl ?_
  conv => whnf
  repeat (first
    | (refine ⟨⟨by kernel_rfl, by kernel_rfl⟩, ?_⟩; conv => whnf)
    | (refine And.intro (by first | omega | (simp; done) | (simp; omega)) ?_; conv => whnf)
    | (refine Or.inl (And.intro (by omega) ?_); conv => whnf)
    | (refine br_intro (fun h => by exfalso; first | (simp at h; done) | (simp at h; omega) | omega) (fun _ => ?_); conv => whnf)
    | (refine br_intro (fun _ => ?_) (fun h => by exfalso; first | (simp at h; done) | (simp at h; omega) | omega); conv => whnf)
    | (refine Exists.intro _ (And.intro (e1 _) ?_); conv => whnf)
    | (refine Exists.intro _ (And.intro (e2 _) ?_); conv => whnf)
    | (refine Exists.intro _ (And.intro (e3) ?_); conv => whnf))
  all_goals (first | rfl | trivial)
theorem iSees03 {X : List Nat} {eye : Nat} {t : AV} (h0 : hillB 4 3 X = true) (he : fin eye = true) (hE : fin (seE X 0 eye) = true) (hL : ∀ n, 1 ≤ n → n < 3 → fin (seL X 0 3 3 eye n) = true) : Does Try.prog 16 [.agg [.int .i64 4, .int .i64 3, .sli .f32 X t], .int .i64 0, .int .i64 3, .flt .f32 eye] (.tup [.bool (seS X 0 3 3 eye 1 2), .bool true]) := by
  obtain ⟨_, _, _, _, q5, _, _⟩ := hill_len h0
  have lX : X.length = 12 := by omega
  have e1 : ∀ t, Does Try.prog 39 [.agg [.int .i64 4, .int .i64 3, .sli .f32 X t], .int .i64 0] (.bool true) := fun t => iCell' h0 (by decide)
  have e2 : ∀ t, Does Try.prog 39 [.agg [.int .i64 4, .int .i64 3, .sli .f32 X t], .int .i64 3] (.bool true) := fun t => iCell' h0 (by decide)
  have e3 : Does Try.prog 26 [.flt .f32 eye] (.bool true) := he ▸ iIsFinite
  have e4 : Does Try.prog 26 [.flt .f32 (seE X 0 eye)] (.bool true) := hE ▸ iIsFinite
  have e5 : ∀ n, 1 ≤ n → n < 3 → Does Try.prog 26 [.flt .f32 (seL X 0 3 3 eye n)] (.bool true) := fun n h1 h2 => hL n h1 h2 ▸ iIsFinite
  refine Does.of_awp (X := cx 122) Try.func16 rfl (by kernel_rfl) rfl (by simp [cx]) [] rfl ?_
  conv => whnf
  repeat (first
    | (refine ⟨⟨by kernel_rfl, by kernel_rfl⟩, ?_⟩; conv => whnf)
    | (refine And.intro (by first | omega | (simp; done) | (simp; omega)) ?_; conv => whnf)
    | (refine Or.inl (And.intro (by omega) ?_); conv => whnf)
    | (refine br_intro (fun h => by exfalso; first | (simp at h; done) | (simp at h; omega) | omega) (fun _ => ?_); conv => whnf)
    | (refine br_intro (fun _ => ?_) (fun h => by exfalso; first | (simp at h; done) | (simp at h; omega) | omega); conv => whnf)
    | (refine Exists.intro _ (And.intro (e1 _) ?_); conv => whnf)
    | (refine Exists.intro _ (And.intro (e2 _) ?_); conv => whnf)
    | (refine Exists.intro _ (And.intro (e3) ?_); conv => whnf)
    | (refine Exists.intro _ (And.intro (e4) ?_); conv => whnf))
  refine ⟨Nat, fun n => 1 ≤ n ∧ n ≤ 3, fun n => [(1, .int .i64 0), (2, .int .i64 3), (4, .loc 16 0), (10, .int .i64 1), (11, .int .i64 3), (12, .flt .f32 (seE X 0 eye)), (13, .bool (seS X 0 3 3 eye 1 (n - 1))), (14, .int .i64 n)], fun n => [(16, .av [.int .i64 4, .int .i64 3, .sli .f32 X t])], fun n => 3 - n, ⟨1, id, ⟨Nat.le_refl _, by omega⟩, rfl, ⟨rfl, rfl, rfl, rfl, rfl, rfl, rfl, rfl, trivial⟩, ⟨rfl, trivial⟩⟩, fun n hn => ?_⟩
  obtain ⟨n1, n2⟩ := hn
  conv => whnf
  (refine br_intro (fun h => ?_) (fun h => ?_) <;> (conv => whnf))
  · have h : n < 3 := by simp at h; omega
    have e6 := e5 n n1 h
    obtain ⟨j, rfl⟩ : ∃ j, n = j + 1 := ⟨n - 1, by omega⟩
    have eS : seS X 0 3 3 eye 1 (j + 1) = (seS X 0 3 3 eye 1 j && !(fcmp .gtr .f32 (X.getD (((0 : Nat) : Int) + ((j + 1 : Nat) : Int) * 1).toNat 0) (seL X 0 3 3 eye (j + 1)))) := rfl
    repeat (first
      | (refine ⟨⟨by kernel_rfl, by kernel_rfl⟩, ?_⟩; conv => whnf)
      | (refine And.intro (by first | omega | (simp; done) | (simp; omega)) ?_; conv => whnf)
      | (refine Or.inl (And.intro (by omega) ?_); conv => whnf)
      | (refine Exists.intro _ (And.intro (e6) ?_); conv => whnf))
    (refine br_intro (fun c => ?_) (fun c => ?_) <;> (conv => whnf))
    · repeat (first
        | (refine ⟨⟨by kernel_rfl, by kernel_rfl⟩, ?_⟩; conv => whnf)
        | (refine And.intro (by first | omega | (simp; done) | (simp; omega)) ?_; conv => whnf)
        | (refine Or.inl (And.intro (by omega) ?_); conv => whnf))
      refine ⟨j + 1 + 1, id, ⟨⟨by omega, h⟩, by dsimp only; omega⟩, rfl, ⟨rfl, rfl, rfl, rfl, rfl, rfl, congrArg AV.bool (by show _ = seS X 0 3 3 eye 1 (j + 1); rw [eS, show seS X 0 3 3 eye 1 j = true from c]; rfl), rfl, trivial⟩, ⟨rfl, trivial⟩⟩
    · repeat (first
        | (refine ⟨⟨by kernel_rfl, by kernel_rfl⟩, ?_⟩; conv => whnf)
        | (refine And.intro (by first | omega | (simp; done) | (simp; omega)) ?_; conv => whnf)
        | (refine Or.inl (And.intro (by omega) ?_); conv => whnf))
      refine ⟨j + 1 + 1, id, ⟨⟨by omega, h⟩, by dsimp only; omega⟩, rfl, ⟨rfl, rfl, rfl, rfl, rfl, rfl, congrArg AV.bool (by show _ = seS X 0 3 3 eye 1 (j + 1); rw [eS, show seS X 0 3 3 eye 1 j = false from c]; rfl), rfl, trivial⟩, ⟨rfl, trivial⟩⟩
  · have h : n = 3 := by simp at h; omega
    subst h
    repeat (first
      | (refine ⟨⟨by kernel_rfl, by kernel_rfl⟩, ?_⟩; conv => whnf)
      | (refine And.intro (by first | omega | (simp; done) | (simp; omega)) ?_; conv => whnf)
      | (refine Or.inl (And.intro (by omega) ?_); conv => whnf))
    all_goals (first | rfl | trivial)
theorem iSees80 {X : List Nat} {eye : Nat} {t : AV} (h0 : hillB 4 3 X = true) (he : fin eye = true) (hE : fin (seE X 8 eye) = true) (hL : ∀ n, 1 ≤ n → n < 2 → fin (seL X 8 0 2 eye n) = true) : Does Try.prog 16 [.agg [.int .i64 4, .int .i64 3, .sli .f32 X t], .int .i64 8, .int .i64 0, .flt .f32 eye] (.tup [.bool (seS X 8 0 2 eye (-4) 1), .bool true]) := by
  obtain ⟨_, _, _, _, q5, _, _⟩ := hill_len h0
  have lX : X.length = 12 := by omega
  have e1 : ∀ t, Does Try.prog 39 [.agg [.int .i64 4, .int .i64 3, .sli .f32 X t], .int .i64 8] (.bool true) := fun t => iCell' h0 (by decide)
  have e2 : ∀ t, Does Try.prog 39 [.agg [.int .i64 4, .int .i64 3, .sli .f32 X t], .int .i64 0] (.bool true) := fun t => iCell' h0 (by decide)
  have e3 : Does Try.prog 26 [.flt .f32 eye] (.bool true) := he ▸ iIsFinite
  have e4 : Does Try.prog 26 [.flt .f32 (seE X 8 eye)] (.bool true) := hE ▸ iIsFinite
  have e5 : ∀ n, 1 ≤ n → n < 2 → Does Try.prog 26 [.flt .f32 (seL X 8 0 2 eye n)] (.bool true) := fun n h1 h2 => hL n h1 h2 ▸ iIsFinite
  refine Does.of_awp (X := cx 122) Try.func16 rfl (by kernel_rfl) rfl (by simp [cx]) [] rfl ?_
  conv => whnf
  repeat (first
    | (refine ⟨⟨by kernel_rfl, by kernel_rfl⟩, ?_⟩; conv => whnf)
    | (refine And.intro (by first | omega | (simp; done) | (simp; omega)) ?_; conv => whnf)
    | (refine Or.inl (And.intro (by omega) ?_); conv => whnf)
    | (refine br_intro (fun h => by exfalso; first | (simp at h; done) | (simp at h; omega) | omega) (fun _ => ?_); conv => whnf)
    | (refine br_intro (fun _ => ?_) (fun h => by exfalso; first | (simp at h; done) | (simp at h; omega) | omega); conv => whnf)
    | (refine Exists.intro _ (And.intro (e1 _) ?_); conv => whnf)
    | (refine Exists.intro _ (And.intro (e2 _) ?_); conv => whnf)
    | (refine Exists.intro _ (And.intro (e3) ?_); conv => whnf)
    | (refine Exists.intro _ (And.intro (e4) ?_); conv => whnf))
  refine Or.inr (And.intro (by decide) ?_)
  conv => whnf
  repeat (first
    | (refine ⟨⟨by kernel_rfl, by kernel_rfl⟩, ?_⟩; conv => whnf)
    | (refine And.intro (by first | omega | (simp; done) | (simp; omega)) ?_; conv => whnf)
    | (refine Or.inl (And.intro (by omega) ?_); conv => whnf)
    | (refine br_intro (fun h => by exfalso; first | (simp at h; done) | (simp at h; omega) | omega) (fun _ => ?_); conv => whnf)
    | (refine br_intro (fun _ => ?_) (fun h => by exfalso; first | (simp at h; done) | (simp at h; omega) | omega); conv => whnf)
    | (refine Exists.intro _ (And.intro (e1 _) ?_); conv => whnf)
    | (refine Exists.intro _ (And.intro (e2 _) ?_); conv => whnf)
    | (refine Exists.intro _ (And.intro (e3) ?_); conv => whnf)
    | (refine Exists.intro _ (And.intro (e4) ?_); conv => whnf))
  refine ⟨Nat, fun n => 1 ≤ n ∧ n ≤ 2, fun n => [(1, .int .i64 8), (2, .int .i64 0), (4, .loc 16 0), (10, .int .i64 (-4)), (11, .int .i64 2), (12, .flt .f32 (seE X 8 eye)), (13, .bool (seS X 8 0 2 eye (-4) (n - 1))), (14, .int .i64 n)], fun n => [(16, .av [.int .i64 4, .int .i64 3, .sli .f32 X t])], fun n => 2 - n, ⟨1, id, ⟨Nat.le_refl _, by omega⟩, rfl, ⟨rfl, rfl, rfl, rfl, rfl, rfl, rfl, rfl, trivial⟩, ⟨rfl, trivial⟩⟩, fun n hn => ?_⟩
  obtain ⟨n1, n2⟩ := hn
  conv => whnf
  (refine br_intro (fun h => ?_) (fun h => ?_) <;> (conv => whnf))
  · have h : n < 2 := by simp at h; omega
    have e6 := e5 n n1 h
    obtain ⟨j, rfl⟩ : ∃ j, n = j + 1 := ⟨n - 1, by omega⟩
    have eS : seS X 8 0 2 eye (-4) (j + 1) = (seS X 8 0 2 eye (-4) j && !(fcmp .gtr .f32 (X.getD (((8 : Nat) : Int) + ((j + 1 : Nat) : Int) * (-4)).toNat 0) (seL X 8 0 2 eye (j + 1)))) := rfl
    repeat (first
      | (refine ⟨⟨by kernel_rfl, by kernel_rfl⟩, ?_⟩; conv => whnf)
      | (refine And.intro (by first | omega | (simp; done) | (simp; omega)) ?_; conv => whnf)
      | (refine Or.inl (And.intro (by omega) ?_); conv => whnf)
      | (refine Exists.intro _ (And.intro (e6) ?_); conv => whnf))
    (refine br_intro (fun c => ?_) (fun c => ?_) <;> (conv => whnf))
    · repeat (first
        | (refine ⟨⟨by kernel_rfl, by kernel_rfl⟩, ?_⟩; conv => whnf)
        | (refine And.intro (by first | omega | (simp; done) | (simp; omega)) ?_; conv => whnf)
        | (refine Or.inl (And.intro (by omega) ?_); conv => whnf))
      refine ⟨j + 1 + 1, id, ⟨⟨by omega, h⟩, by dsimp only; omega⟩, rfl, ⟨rfl, rfl, rfl, rfl, rfl, rfl, congrArg AV.bool (by show _ = seS X 8 0 2 eye (-4) (j + 1); rw [eS, show seS X 8 0 2 eye (-4) j = true from c]; rfl), rfl, trivial⟩, ⟨rfl, trivial⟩⟩
    · repeat (first
        | (refine ⟨⟨by kernel_rfl, by kernel_rfl⟩, ?_⟩; conv => whnf)
        | (refine And.intro (by first | omega | (simp; done) | (simp; omega)) ?_; conv => whnf)
        | (refine Or.inl (And.intro (by omega) ?_); conv => whnf))
      refine ⟨j + 1 + 1, id, ⟨⟨by omega, h⟩, by dsimp only; omega⟩, rfl, ⟨rfl, rfl, rfl, rfl, rfl, rfl, congrArg AV.bool (by show _ = seS X 8 0 2 eye (-4) (j + 1); rw [eS, show seS X 8 0 2 eye (-4) j = false from c]; rfl), rfl, trivial⟩, ⟨rfl, trivial⟩⟩
  · have h : n = 2 := by simp at h; omega
    subst h
    repeat (first
      | (refine ⟨⟨by kernel_rfl, by kernel_rfl⟩, ?_⟩; conv => whnf)
      | (refine And.intro (by first | omega | (simp; done) | (simp; omega)) ?_; conv => whnf)
      | (refine Or.inl (And.intro (by omega) ?_); conv => whnf))
    all_goals (first | rfl | trivial)

end Go.Proofs.Ytagiajolklbbiaa
