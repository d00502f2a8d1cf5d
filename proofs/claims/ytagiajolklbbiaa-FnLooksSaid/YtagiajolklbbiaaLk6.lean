/- What each function of this seat does (Lk6). Printed from templates of this seat's own. -/
import Derived.Test.YtagiajolklbbiaaLk5
import Derived.Test.YtagiajolklbbiaaLk3
namespace Go.Proofs.Ytagiajolklbbiaa
open Go.Ax Go.Bx
set_option maxRecDepth 8000
set_option linter.unusedSimpArgs false
set_option linter.unusedVariables false

def phF (x : Nat) : Nat → Nat
  | 0 => bhN x
  | q + 1 => fop .sub .f64 (phF x q) (canon .f64 4598175219545276416)
def phC (x Q : Nat) : Nat := snV (fop .sub .f64 (canon .f64 4598175219545276416) (phF x Q))
def phS (x Q : Nat) : Nat := snV (phF x Q)
def phRe (Q c s : Nat) : Nat := match Q with
  | 0 => c
  | 1 => fop .sub .f64 (canon .f64 0) s
  | 2 => fop .sub .f64 (canon .f64 0) c
  | _ => s
def phIm (Q c s : Nat) : Nat := match Q with
  | 0 => s
  | 1 => c
  | 2 => fop .sub .f64 (canon .f64 0) s
  | _ => fop .sub .f64 (canon .f64 0) c
def phOk (x Q : Nat) : Bool := ((!(fcmp .neq .f64 x x) && !(fcmp .gtr .f64 (fabs64 x) (canon .f64 9218868437227405311))) && (!(fcmp .geq .f64 (fabs64 x) (canon .f64 4841369599423283200)) && okB x)) && ((allN (fun j => fcmp .geq .f64 (phF x j) (canon .f64 4598175219545276416)) Q && !(fcmp .geq .f64 (phF x Q) (canon .f64 4598175219545276416))) && ((Nat.ble Q 3 && (okS (fop .sub .f64 (canon .f64 4598175219545276416) (phF x Q)) && okS (phF x Q))) && (!(tooBig (phRe Q (phC x Q) (phS x Q))) && !(tooBig (phIm Q (phC x Q) (phS x Q))))))
theorem iPhasor {x Q : Nat} (h : phOk x Q = true) : Does Try.prog 36 [.flt .f64 x] (.cpx .f32 (fnarrow (phRe Q (phC x Q) (phS x Q))) (fnarrow (phIm Q (phC x Q) (phS x Q)))) := by
  simp only [phOk, Bool.and_eq_true, Bool.not_eq_true'] at h
  obtain ⟨⟨hf, hfar, hB⟩, ⟨hq, hQ⟩, ⟨h4, s1, s2⟩, t1, t2⟩ := h
  have h4 := Nat.le_of_ble_eq_true h4
  have e0 : Does Try.prog 48 [.flt .f64 x] (.bool true) := by
    have := @ifinite x
    rw [hf.1, hf.2] at this
    exact this
  have e1 := iBehind hB
  have e2 := iSine s1
  have e3 := iSine s2
  have hq := fun j (hj : j < Q) => allN_iff.1 hq j hj
  refine Does.of_awp (X := cx 60) Try.func36 rfl (by kernel_rfl) rfl (by simp [cx]) [] rfl ?_
  conv => whnf
  repeat (first
    | (refine ⟨⟨by kernel_rfl, by kernel_rfl⟩, ?_⟩; conv => whnf)
    | (refine And.intro (by first | omega | (simp; done) | (simp; omega)) ?_; conv => whnf)
    | (refine Or.inl (And.intro (by omega) ?_); conv => whnf)
    | (refine Exists.intro _ (And.intro (e0) ?_); conv => whnf))
  repeat (first
    | (refine ⟨⟨by kernel_rfl, by kernel_rfl⟩, ?_⟩; conv => whnf)
    | (refine And.intro (by first | omega | (simp; done) | (simp; omega)) ?_; conv => whnf)
    | (refine Or.inl (And.intro (by omega) ?_); conv => whnf)
    | (refine Exists.intro _ (And.intro (xAbs) ?_); conv => whnf))
  (refine br_intro (fun c1 => ?_) (fun c1 => ?_) <;> (conv => whnf))
  · have c1 : fcmp .geq .f64 (fabs64 x) (canon .f64 4841369599423283200) = true := c1
    rw [hfar] at c1; cases c1
  repeat (first
    | (refine ⟨⟨by kernel_rfl, by kernel_rfl⟩, ?_⟩; conv => whnf)
    | (refine And.intro (by first | omega | (simp; done) | (simp; omega)) ?_; conv => whnf)
    | (refine Or.inl (And.intro (by omega) ?_); conv => whnf)
    | (refine Exists.intro _ (And.intro (e1) ?_); conv => whnf))
  refine ⟨Nat, fun q => q ≤ Q, fun q => [(4, .flt .f64 (phF x q)), (5, .int .i64 q)], fun _ => [], fun q => Q - q, ⟨0, id, Nat.zero_le _, rfl, ⟨rfl, rfl, trivial⟩, trivial⟩, fun q hq' => ?_⟩
  dsimp only at hq'
  conv => whnf
  (refine br_intro (fun c2 => ?_) (fun c2 => ?_) <;> (conv => whnf))
  · have c2 : fcmp .geq .f64 (phF x q) (canon .f64 4598175219545276416) = true := c2
    have : q < Q := by
      rcases Nat.lt_or_ge q Q with g | g
      · exact g
      · have : q = Q := by omega
        rw [this, hQ] at c2; cases c2
    repeat (first
      | (refine ⟨⟨by kernel_rfl, by kernel_rfl⟩, ?_⟩; conv => whnf)
      | (refine And.intro (by first | omega | (simp; done) | (simp; omega)) ?_; conv => whnf)
      | (refine Or.inl (And.intro (by omega) ?_); conv => whnf))
    refine ⟨q + 1, id, ⟨this, by dsimp only; omega⟩, rfl, ⟨rfl, rfl, trivial⟩, trivial⟩
  · have c2 : fcmp .geq .f64 (phF x q) (canon .f64 4598175219545276416) = false := c2
    have : q = Q := by
      rcases Nat.lt_or_ge q Q with g | g
      · rw [hq q g] at c2; cases c2
      · omega
    subst this
    have k : q = 0 ∨ q = 1 ∨ q = 2 ∨ q = 3 := by omega
    have e2 : Does Try.prog 56 [.flt .f64 (fop .sub .f64 (canon .f64 4598175219545276416) (phF x q))] (.flt .f64 (phC x q)) := e2
    have e3 : Does Try.prog 56 [.flt .f64 (phF x q)] (.flt .f64 (phS x q)) := e3
    rcases k with rfl | rfl | rfl | rfl
    · have t1 : tooBig (phC x 0) = false := t1
      have t2 : tooBig (phS x 0) = false := t2
      repeat (first
        | (refine ⟨⟨by kernel_rfl, by kernel_rfl⟩, ?_⟩; conv => whnf)
        | (refine And.intro (by first | omega | (simp; done) | (simp; omega)) ?_; conv => whnf)
        | (refine Or.inl (And.intro (by omega) ?_); conv => whnf)
        | (refine br_intro (fun h => by exfalso; first | (simp at h; done) | (simp at h; omega) | omega) (fun _ => ?_); conv => whnf)
        | (refine br_intro (fun _ => ?_) (fun h => by exfalso; first | (simp at h; done) | (simp at h; omega) | omega); conv => whnf)
        | (refine Exists.intro _ (And.intro (e2) ?_); conv => whnf)
        | (refine Exists.intro _ (And.intro (e3) ?_); conv => whnf))
      all_goals (first | rfl | trivial)
    · have t1 : tooBig (fop .sub .f64 (canon .f64 0) (phS x 1)) = false := t1
      have t2 : tooBig (phC x 1) = false := t2
      repeat (first
        | (refine ⟨⟨by kernel_rfl, by kernel_rfl⟩, ?_⟩; conv => whnf)
        | (refine And.intro (by first | omega | (simp; done) | (simp; omega)) ?_; conv => whnf)
        | (refine Or.inl (And.intro (by omega) ?_); conv => whnf)
        | (refine br_intro (fun h => by exfalso; first | (simp at h; done) | (simp at h; omega) | omega) (fun _ => ?_); conv => whnf)
        | (refine br_intro (fun _ => ?_) (fun h => by exfalso; first | (simp at h; done) | (simp at h; omega) | omega); conv => whnf)
        | (refine Exists.intro _ (And.intro (e2) ?_); conv => whnf)
        | (refine Exists.intro _ (And.intro (e3) ?_); conv => whnf))
      all_goals (first | rfl | trivial)
    · have t1 : tooBig (fop .sub .f64 (canon .f64 0) (phC x 2)) = false := t1
      have t2 : tooBig (fop .sub .f64 (canon .f64 0) (phS x 2)) = false := t2
      repeat (first
        | (refine ⟨⟨by kernel_rfl, by kernel_rfl⟩, ?_⟩; conv => whnf)
        | (refine And.intro (by first | omega | (simp; done) | (simp; omega)) ?_; conv => whnf)
        | (refine Or.inl (And.intro (by omega) ?_); conv => whnf)
        | (refine br_intro (fun h => by exfalso; first | (simp at h; done) | (simp at h; omega) | omega) (fun _ => ?_); conv => whnf)
        | (refine br_intro (fun _ => ?_) (fun h => by exfalso; first | (simp at h; done) | (simp at h; omega) | omega); conv => whnf)
        | (refine Exists.intro _ (And.intro (e2) ?_); conv => whnf)
        | (refine Exists.intro _ (And.intro (e3) ?_); conv => whnf))
      all_goals (first | rfl | trivial)
    · have t1 : tooBig (phS x 3) = false := t1
      have t2 : tooBig (fop .sub .f64 (canon .f64 0) (phC x 3)) = false := t2
      repeat (first
        | (refine ⟨⟨by kernel_rfl, by kernel_rfl⟩, ?_⟩; conv => whnf)
        | (refine And.intro (by first | omega | (simp; done) | (simp; omega)) ?_; conv => whnf)
        | (refine Or.inl (And.intro (by omega) ?_); conv => whnf)
        | (refine br_intro (fun h => by exfalso; first | (simp at h; done) | (simp at h; omega) | omega) (fun _ => ?_); conv => whnf)
        | (refine br_intro (fun _ => ?_) (fun h => by exfalso; first | (simp at h; done) | (simp at h; omega) | omega); conv => whnf)
        | (refine Exists.intro _ (And.intro (e2) ?_); conv => whnf)
        | (refine Exists.intro _ (And.intro (e3) ?_); conv => whnf))
      all_goals (first | rfl | trivial)

def pw64 (d : Nat × Nat) : Nat := fop .add .f64 (fop .mul .f64 (fwiden d.1) (fwiden d.1)) (fop .mul .f64 (fwiden d.2) (fwiden d.2))
def cPow (d : Nat × Nat) : Nat := fnarrow (pw64 d)
theorem iParts {p : Nat × Nat} : Does Try.prog 68 [.cpx .f32 p.1 p.2] (.tup [.flt .f64 (fwiden p.1), .flt .f64 (fwiden p.2)]) := by
  refine Does.of_awp (X := cx 10) Try.func68 rfl (by kernel_rfl) rfl (by simp [cx]) [] rfl ?_
  conv => whnf
  repeat (first
    | (refine ⟨⟨by kernel_rfl, by kernel_rfl⟩, ?_⟩; conv => whnf)
    | (refine And.intro (by first | omega | (simp; done) | (simp; omega)) ?_; conv => whnf)
    | (refine Or.inl (And.intro (by omega) ?_); conv => whnf))
  all_goals (first | rfl | trivial)

theorem iPower64 {p : Nat × Nat} : Does Try.prog 58 [.cpx .f32 p.1 p.2] (.flt .f64 (pw64 p)) := by
  refine Does.of_awp (X := cx 17) Try.func58 rfl (by kernel_rfl) rfl (by simp [cx]) [] rfl ?_
  conv => whnf
  repeat (first
    | (refine ⟨⟨by kernel_rfl, by kernel_rfl⟩, ?_⟩; conv => whnf)
    | (refine And.intro (by first | omega | (simp; done) | (simp; omega)) ?_; conv => whnf)
    | (refine Or.inl (And.intro (by omega) ?_); conv => whnf)
    | (refine Exists.intro _ (And.intro (iParts) ?_); conv => whnf))
  all_goals (first | rfl | trivial)

theorem iPowerOf {p : Nat × Nat} (h : tooBig (pw64 p) = false) : Does Try.prog 38 [.cpx .f32 p.1 p.2] (.flt .f32 (cPow p)) := by
  refine Does.of_awp (X := cx 6) Try.func38 rfl (by kernel_rfl) rfl (by simp [cx]) [] rfl ?_
  conv => whnf
  repeat (first
    | (refine ⟨⟨by kernel_rfl, by kernel_rfl⟩, ?_⟩; conv => whnf)
    | (refine And.intro (by first | omega | (simp; done) | (simp; omega)) ?_; conv => whnf)
    | (refine Or.inl (And.intro (by omega) ?_); conv => whnf)
    | (refine Exists.intro _ (And.intro (iPower64) ?_); conv => whnf))
  all_goals (first | rfl | trivial)

def roW (x : Nat) : Nat := fnarrow (fsqrt (fwiden x))
def shX (e s pc ps : Nat) : Nat := fop .quo .f32 (fop .sub .f32 (canon .f32 1065353216) (fop .add .f32 (fop .mul .f32 e pc) (fop .mul .f32 s ps))) (fop .mul .f32 (roW (fop .add .f32 (cPow (e, s)) (canon .f32 1065353216))) (roW (fop .add .f32 (fop .mul .f32 (canon .f32 1065353216) (canon .f32 1065353216)) (canon .f32 1065353216))))
def shV (e s pc ps : Nat) : Nat := bif fcmp .gtr .f32 (shX e s pc ps) (canon .f32 0) then shX e s pc ps else canon .f32 0
theorem iShade {X : List Nat} {e s pc ps T : Nat} {t : AV} (h0 : hillB 4 3 X = true) (hT : fin T = true) (hP : Does Try.prog 36 [.flt .f64 (fwiden T)] (.cpx .f32 pc ps)) (ht : ∀ i, i < 12 → ∀ t, Does Try.prog 15 [.agg [.int .i64 4, .int .i64 3, .sli .f32 X t], .int .i64 (i : Nat)] (.tup [.cpx .f32 e s, .bool true])) (hp : tooBig (pw64 (e, s)) = false) (hV : fin (shV e s pc ps) = true) : Does Try.prog 14 [.agg [.int .i64 4, .int .i64 3, .sli .f32 X t], .flt .f32 T, .flt .f32 (canon .f32 1065353216)] (.tup [.own 0 .f32 (tabN (fun _ => shV e s pc ps) 12), .bool true]) := by
  obtain ⟨_, _, _, _, q5, _, _⟩ := hill_len h0
  have lX : X.length = 12 := by omega
  have e1 : ∀ t, Does Try.prog 21 [.agg [.int .i64 4, .int .i64 3, .sli .f32 X t]] (.bool true) := fun t => h0 ▸ iIs (by omega)
  have e2 : ∀ t, Does Try.prog 34 [.sli .f32 [T, canon .f32 1065353216] t] (.bool true) := fun t => by
    have := iFinL (xs := [T, canon .f32 1065353216]) (t := t) (by simp)
    rwa [fin2 hT (by decide +kernel)] at this
  have e3 : Does Try.prog 38 [.cpx .f32 e s] (.flt .f32 (cPow (e, s))) := iPowerOf (p := (e, s)) hp
  have e4 : ∀ x, Does Try.prog 37 [.flt .f32 x] (.flt .f32 (roW x)) := fun x => iRoot
  have e5 : ∀ t, Does Try.prog 34 [.sli .f32 (tabN (fun _ => shV e s pc ps) 12) t] (.bool true) := fun t => by
    have := iFinL (xs := tabN (fun _ => shV e s pc ps) 12) (t := t) (by rw [tabN_len]; omega)
    rwa [show finL (tabN (fun _ => shV e s pc ps) 12) = true from by
      unfold finL
      refine allN_iff.2 fun i hi => ?_
      rw [tabN_len] at hi
      rw [tabN_getD (fun _ => shV e s pc ps) hi 0]
      exact hV] at this
  refine Does.of_awp (X := cx 78) Try.func14 rfl (by kernel_rfl) rfl (by simp [cx]) [108] rfl ?_
  conv => whnf
  repeat (first
    | (refine ⟨⟨by kernel_rfl, by kernel_rfl⟩, ?_⟩; conv => whnf)
    | (refine And.intro (by first | omega | (simp; done) | (simp; omega)) ?_; conv => whnf)
    | (refine Or.inl (And.intro (by omega) ?_); conv => whnf)
    | (refine Exists.intro _ (And.intro (e1 _) ?_); conv => whnf)
    | (refine Exists.intro _ (And.intro (e2 _) ?_); conv => whnf)
    | (refine Exists.intro _ (And.intro (hP) ?_); conv => whnf))
  refine ⟨Nat, fun i => i ≤ 12, fun i => [(2, .flt .f32 (canon .f32 1065353216)), (3, .loc 12 0), (8, .cpx .f32 pc ps), (9, .osl 108), (30, .int .i64 12), (31, .int .i64 i)], fun i => [(12, .av [.int .i64 4, .int .i64 3, .sli .f32 X t]), (108, .tab .f32 (tabN (fun _ => shV e s pc ps) i))], fun i => 12 - i, ⟨0, id, Nat.zero_le _, rfl, ⟨rfl, rfl, rfl, rfl, congrArg (AV.int .i64) (show (X.length : Int) = 12 by omega), rfl, trivial⟩, ⟨rfl, rfl, trivial⟩⟩, fun i hi => ?_⟩
  dsimp only at hi
  conv => whnf
  (refine br_intro (fun c => ?_) (fun c => ?_) <;> (conv => whnf))
  · have c : i < 12 := by simp at c; omega
    have hti := ht i c
    repeat (first
      | (refine ⟨⟨by kernel_rfl, by kernel_rfl⟩, ?_⟩; conv => whnf)
      | (refine And.intro (by first | omega | (simp; done) | (simp; omega)) ?_; conv => whnf)
      | (refine Or.inl (And.intro (by omega) ?_); conv => whnf)
      | (refine Exists.intro _ (And.intro (hti _) ?_); conv => whnf)
      | (refine Exists.intro _ (And.intro (e3) ?_); conv => whnf)
      | (refine Exists.intro _ (And.intro (e4 _) ?_); conv => whnf))
    (refine br_intro (fun c2 => ?_) (fun c2 => ?_) <;> (conv => whnf))
    · have c2 : fcmp .gtr .f32 (shX e s pc ps) (canon .f32 0) = false := nott c2
      have eV : shV e s pc ps = canon .f32 0 := by rw [shV, c2, cond_false]
      repeat (first
        | (refine ⟨⟨by kernel_rfl, by kernel_rfl⟩, ?_⟩; conv => whnf)
        | (refine And.intro (by first | omega | (simp; done) | (simp; omega)) ?_; conv => whnf)
        | (refine Or.inl (And.intro (by omega) ?_); conv => whnf))
      refine ⟨i + 1, ren [(108, 288)], ⟨c, by dsimp only; omega⟩, rfl, ⟨rfl, rfl, rfl, rfl, rfl, rfl, trivial⟩, ⟨rfl, congrArg (fun v => KS.live (Blk.tab .f32 (tabN (fun _ => shV e s pc ps) i ++ [v]))) eV.symm, trivial⟩⟩
    · have c2 : fcmp .gtr .f32 (shX e s pc ps) (canon .f32 0) = true := notf c2
      have eV : shV e s pc ps = shX e s pc ps := by rw [shV, c2, cond_true]
      repeat (first
        | (refine ⟨⟨by kernel_rfl, by kernel_rfl⟩, ?_⟩; conv => whnf)
        | (refine And.intro (by first | omega | (simp; done) | (simp; omega)) ?_; conv => whnf)
        | (refine Or.inl (And.intro (by omega) ?_); conv => whnf))
      refine ⟨i + 1, ren [(108, 288)], ⟨c, by dsimp only; omega⟩, rfl, ⟨rfl, rfl, rfl, rfl, rfl, rfl, trivial⟩, ⟨rfl, congrArg (fun v => KS.live (Blk.tab .f32 (tabN (fun _ => shV e s pc ps) i ++ [v]))) eV.symm, trivial⟩⟩
  · have c : i = 12 := by simp at c; omega
    subst c
    repeat (first
      | (refine ⟨⟨by kernel_rfl, by kernel_rfl⟩, ?_⟩; conv => whnf)
      | (refine And.intro (by first | omega | (simp; done) | (simp; omega)) ?_; conv => whnf)
      | (refine Or.inl (And.intro (by omega) ?_); conv => whnf)
      | (refine Exists.intro _ (And.intro (e5 _) ?_); conv => whnf))
    all_goals (first | rfl | trivial)

end Go.Proofs.Ytagiajolklbbiaa
