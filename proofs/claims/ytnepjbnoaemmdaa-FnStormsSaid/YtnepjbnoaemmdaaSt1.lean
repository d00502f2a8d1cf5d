/- What each function of this seat does (St1). Printed from templates of this seat's own. -/
import Derived.Test.YtnepjbnoaemmdaaSam
import Derived.Test.YtnepjbnoaemmdaaNr1
namespace Go.Proofs.Ytnepjbnoaemmdaa
open Go.Ax Go.Bx
set_option maxRecDepth 8000
set_option linter.unusedSimpArgs false
set_option linter.unusedVariables false
/-! Storms: what a law asks of them. -/
noncomputable def raU (s : S4) (a : Nat) : Nat := fop .quo .f32 (fop .mul .f32 (canon .f32 1073741824) s.2.2.1) s.2.1
noncomputable def raR (s : S4) (a : Nat) : Nat :=
  bif fcmp .leq .f32 (stT s a) s.2.2.2 then fop .mul .f32 (raU s a) (fop .quo .f32 (stT s a) s.2.2.2) else
  fop .mul .f32 (raU s a) (fop .quo .f32 (fop .sub .f32 (canon .f32 1065353216) (stT s a)) (fop .sub .f32 (canon .f32 1065353216) s.2.2.2))

theorem iNumberT {x : Nat} (h : fin x = true) : Does Try.prog 31 [.flt .f32 x] (.tup [.flt .f32 x, .bool true]) := by
  have := @iNumber x
  rw [h] at this
  exact this

theorem iRainAt {s : S4} {a : Nat} (hv : stV s = true) (hf : fin a = true) (h1 : fcmp .lss .f32 (stT s a) (canon .f32 0) = false) (h2 : fcmp .gtr .f32 (stT s a) (canon .f32 1065353216) = false) (hr : fin (raR s a) = true) :
    Does Try.prog 12 [.agg [.flt .f32 s.1, .flt .f32 s.2.1, .flt .f32 s.2.2.1, .flt .f32 s.2.2.2], .flt .f32 a] (.tup [.flt .f32 (raR s a), .bool true]) := by
  have e1 : Does Try.prog 13 [.agg [.flt .f32 s.1, .flt .f32 s.2.1, .flt .f32 s.2.2.1, .flt .f32 s.2.2.2]] (.bool true) := hv ▸ iStorm (s := s)
  have e2 : Does Try.prog 34 [.flt .f32 a] (.bool true) := hf ▸ iIsFinite
  have no : ∀ {b : Bool}, b = false → b = true → False := fun h g => by rw [h] at g; cases g
  refine Does.of_awp (X := cx 59) Try.func12 rfl (by kernel_rfl) rfl (by simp [cx]) [] rfl ?_
  conv => whnf
  repeat (first
    | (refine ⟨⟨by kernel_rfl, by kernel_rfl⟩, ?_⟩; conv => whnf)
    | (refine And.intro (by first | omega | (simp; done) | (simp; omega)) ?_; conv => whnf)
    | (refine Or.inl (And.intro (by omega) ?_); conv => whnf)
    | (refine Exists.intro _ (And.intro (e1) ?_); conv => whnf)
    | (refine Exists.intro _ (And.intro (e2) ?_); conv => whnf))
  (refine br_intro (fun g1 => ?_) (fun g1 => ?_) <;> (conv => whnf))
  · exact (no h1 g1).elim
  repeat (first
    | (refine ⟨⟨by kernel_rfl, by kernel_rfl⟩, ?_⟩; conv => whnf)
    | (refine And.intro (by first | omega | (simp; done) | (simp; omega)) ?_; conv => whnf)
    | (refine Or.inl (And.intro (by omega) ?_); conv => whnf))
  (refine br_intro (fun g2 => ?_) (fun g2 => ?_) <;> (conv => whnf))
  · exact (no h2 g2).elim
  repeat (first
    | (refine ⟨⟨by kernel_rfl, by kernel_rfl⟩, ?_⟩; conv => whnf)
    | (refine And.intro (by first | omega | (simp; done) | (simp; omega)) ?_; conv => whnf)
    | (refine Or.inl (And.intro (by omega) ?_); conv => whnf))
  (refine br_intro (fun g3 => ?_) (fun g3 => ?_) <;> (conv => whnf))
  · have e : raR s a = fop .mul .f32 (raU s a) (fop .quo .f32 (stT s a) s.2.2.2) := by
      have g3 : fcmp .leq .f32 (stT s a) s.2.2.2 = true := g3
      rw [raR, g3]; rfl
    rw [e] at hr ⊢
    have e3 := iNumberT hr
    repeat (first
      | (refine ⟨⟨by kernel_rfl, by kernel_rfl⟩, ?_⟩; conv => whnf)
      | (refine And.intro (by first | omega | (simp; done) | (simp; omega)) ?_; conv => whnf)
      | (refine Or.inl (And.intro (by omega) ?_); conv => whnf)
      | (refine Exists.intro _ (And.intro (e3) ?_); conv => whnf))
    all_goals (first | rfl | trivial)
  · have e : raR s a = fop .mul .f32 (raU s a) (fop .quo .f32 (fop .sub .f32 (canon .f32 1065353216) (stT s a)) (fop .sub .f32 (canon .f32 1065353216) s.2.2.2)) := by
      have g3 : fcmp .leq .f32 (stT s a) s.2.2.2 = false := g3
      rw [raR, g3]; rfl
    rw [e] at hr ⊢
    have e3 := iNumberT hr
    repeat (first
      | (refine ⟨⟨by kernel_rfl, by kernel_rfl⟩, ?_⟩; conv => whnf)
      | (refine And.intro (by first | omega | (simp; done) | (simp; omega)) ?_; conv => whnf)
      | (refine Or.inl (And.intro (by omega) ?_); conv => whnf)
      | (refine Exists.intro _ (And.intro (e3) ?_); conv => whnf))
    all_goals (first | rfl | trivial)

theorem iFallenBy {s : S4} {a : Nat} (hv : stV s = true) (hf : fin a = true) (hr : fin (stF s a) = true) :
    Does Try.prog 11 [.agg [.flt .f32 s.1, .flt .f32 s.2.1, .flt .f32 s.2.2.1, .flt .f32 s.2.2.2], .flt .f32 a] (.tup [.flt .f32 (stF s a), .bool true]) := by
  have e1 : Does Try.prog 13 [.agg [.flt .f32 s.1, .flt .f32 s.2.1, .flt .f32 s.2.2.1, .flt .f32 s.2.2.2]] (.bool true) := hv ▸ iStorm (s := s)
  have e2 : Does Try.prog 34 [.flt .f32 a] (.bool true) := hf ▸ iIsFinite
  have e3 := iNumberT hr
  refine Does.of_awp (X := cx 20) Try.func11 rfl (by kernel_rfl) rfl (by simp [cx]) [] rfl ?_
  conv => whnf
  repeat (first
    | (refine ⟨⟨by kernel_rfl, by kernel_rfl⟩, ?_⟩; conv => whnf)
    | (refine And.intro (by first | omega | (simp; done) | (simp; omega)) ?_; conv => whnf)
    | (refine Or.inl (And.intro (by omega) ?_); conv => whnf)
    | (refine Exists.intro _ (And.intro (e1) ?_); conv => whnf)
    | (refine Exists.intro _ (And.intro (e2) ?_); conv => whnf)
    | (refine Exists.intro _ (And.intro (iFallen (s := s)) ?_); conv => whnf)
    | (refine Exists.intro _ (And.intro (e3) ?_); conv => whnf))
  all_goals (first | rfl | trivial)

theorem iRainSharedT {xs : List S4} {t : AV} {step : Nat} {n k : Int} (hx : xs.length ≤ 1048576) (hk : inR k 1 8 = true) : Does Try.prog 15 [.sli .f4 xs t, .flt .f32 step, .int .i64 n, .int .i64 k] (.tup [.own 0 .f32 (rnO xs step n), .bool (rnC xs step n)]) := by
  have e1 : Does Try.prog 24 [.int .i64 k, .int .i64 1, .int .i64 8] (.bool true) := hk ▸ iWithin
  refine Does.of_awp (X := cx 19) Try.func15 rfl (by kernel_rfl) rfl (by simp [cx]) [64] rfl ?_
  conv => whnf
  repeat (first
    | (refine ⟨⟨by kernel_rfl, by kernel_rfl⟩, ?_⟩; conv => whnf)
    | (refine And.intro (by first | omega | (simp; done) | (simp; omega)) ?_; conv => whnf)
    | (refine Or.inl (And.intro (by omega) ?_); conv => whnf)
    | (refine Exists.intro _ (And.intro (e1) ?_); conv => whnf)
    | (refine Exists.intro _ (And.intro (iRainList hx) ?_); conv => whnf))
  all_goals (first | rfl | trivial)

theorem sSameN {a b : Nat} (ha : a < 2 ^ 32) (hb : b < 2 ^ 32) : Does Try.prog 39 [.flt .f32 a, .flt .f32 b] (.bool (sb a b)) := by
  refine Does.of_awp (X := cx 8) Try.func39 rfl (by kernel_rfl) rfl (by simp [cx]) [] rfl ?_
  conv => whnf
  repeat (first
    | (refine ⟨⟨by kernel_rfl, by kernel_rfl⟩, ?_⟩; conv => whnf)
    | (refine And.intro (by first | omega | (simp; done) | (simp; omega)) ?_; conv => whnf)
    | (refine Or.inl (And.intro (by omega) ?_); conv => whnf)
    | (refine Exists.intro _ (And.intro (sSame ha hb) ?_); conv => whnf))
  all_goals (first | rfl | trivial)
theorem sb_self (a : Nat) : sb a a = true := by unfold sb; simp

theorem lB10List {xs : List Nat} {t t' : AV} (hn : xs.length ≤ 1048576) (hw : ∀ y ∈ xs, y < 2 ^ 32) : Does Try.prog 16 [.sli .f32 xs t, .sli .f32 xs t'] (.bool true) := by
  refine Does.of_awp (X := cx 27) Try.func16 rfl (by kernel_rfl) rfl (by simp [cx]) [] rfl ?_
  conv => whnf
  repeat (first
    | (refine ⟨⟨by kernel_rfl, by kernel_rfl⟩, ?_⟩; conv => whnf)
    | (refine And.intro (by first | omega | (simp; done) | (simp; omega)) ?_; conv => whnf)
    | (refine Or.inl (And.intro (by omega) ?_); conv => whnf))
  (refine br_intro (fun h0 => ?_) (fun h0 => ?_) <;> (conv => whnf))
  · exfalso; simp at h0
  repeat (first
    | (refine ⟨⟨by kernel_rfl, by kernel_rfl⟩, ?_⟩; conv => whnf)
    | (refine And.intro (by first | omega | (simp; done) | (simp; omega)) ?_; conv => whnf)
    | (refine Or.inl (And.intro (by omega) ?_); conv => whnf))
  refine ⟨Nat, fun i => i ≤ xs.length, fun i => [(0, .sli .f32 xs t), (1, .sli .f32 xs t'), (12, .int .i64 xs.length), (13, .int .i64 i)], fun _ => [], fun i => xs.length - i, ⟨0, id, Nat.zero_le _, rfl, ⟨rfl, rfl, rfl, rfl, trivial⟩, trivial⟩, fun i hi => ?_⟩
  conv => whnf
  (refine br_intro (fun h => ?_) (fun h => ?_) <;> (conv => whnf))
  · have h : i < xs.length := by simp at h; omega
    have e : Does Try.prog 39 [.flt .f32 (xs.getD i 0), .flt .f32 (xs.getD i 0)] (.bool true) := by
      have := sSameN (W1_at hw h) (W1_at hw h)
      rwa [sb_self] at this
    repeat (first
      | (refine ⟨⟨by kernel_rfl, by kernel_rfl⟩, ?_⟩; conv => whnf)
      | (refine And.intro (by first | omega | (simp; done) | (simp; omega)) ?_; conv => whnf)
      | (refine Or.inl (And.intro (by omega) ?_); conv => whnf)
      | (refine Exists.intro _ (And.intro (e) ?_); conv => whnf))
    refine ⟨i + 1, id, ⟨h, by dsimp only; omega⟩, rfl, ⟨rfl, rfl, rfl, rfl, trivial⟩, trivial⟩

noncomputable def bsd1 (bs : List Int) : Int × Nat × Int := pk bs 0 0 32768
noncomputable def bsd2 (bs : List Int) : Int × Nat × Int := pk bs (bsd1 bs).2.1 (bsd1 bs).2.2 65536
noncomputable def bsd (bs : List Int) : Int := (bsd1 bs).1 * 65536 + (bsd2 bs).1
theorem bsd_bound {bs : List Int} (hb : Byt bs) : (0 ≤ (bsd1 bs).1 ∧ (bsd1 bs).1 < 32768) ∧ 0 ≤ bsd bs ∧ bsd bs ≤ 2147483647 := by
  have h1 := pk_bound (p := 0) (s := 0) (n := 32768) hb (by omega) (by omega)
  rw [show pk bs 0 0 32768 = bsd1 bs from rfl] at h1
  have h2 := pk_bound (p := (bsd1 bs).2.1) (s := (bsd1 bs).2.2) (n := 65536) hb (by omega) (by omega)
  rw [show pk bs _ _ 65536 = bsd2 bs from rfl] at h2
  unfold bsd
  omega
theorem sSeed {bs : List Int} {t : AV} (hb : Byt bs) : Does Try.prog 20 [.sli (.int .u8) bs t] (.int .i64 (bsd bs)) := by
  obtain ⟨h1, h2⟩ := bsd_bound hb
  have h3 := pk_bound (p := 0) (s := 0) (n := 32768) hb (by omega) (by omega)
  rw [show pk bs 0 0 32768 = bsd1 bs from rfl] at h3
  have h4 := pk_bound (p := (bsd1 bs).2.1) (s := (bsd1 bs).2.2) (n := 65536) hb (by omega) (by omega)
  rw [show pk bs (bsd1 bs).2.1 (bsd1 bs).2.2 65536 = bsd2 bs from rfl] at h4
  have d1 : ∀ t, DoesP Try.prog 33 [.loc LK 0, .int .i64 32768] (srC bs t 0 0) (.int .i64 (bsd1 bs).1) (srC bs t (bsd1 bs).2.1 (bsd1 bs).2.2) := fun t => @sPick bs t 0 0 32768 hb (by omega) (by omega)
  have d2 : ∀ t, DoesP Try.prog 33 [.loc LK 0, .int .i64 65536] (srC bs t (bsd1 bs).2.1 (bsd1 bs).2.2) (.int .i64 (bsd2 bs).1) (srC bs t (bsd2 bs).2.1 (bsd2 bs).2.2) := fun t => @sPick bs t (bsd1 bs).2.1 (bsd1 bs).2.2 65536 hb (by omega) (by omega)
  refine Does.of_awp (X := cx 14) Try.func20 rfl (by kernel_rfl) rfl (by simp [cx]) [] rfl ?_
  conv => whnf
  repeat (first
    | (refine ⟨⟨by kernel_rfl, by kernel_rfl⟩, ?_⟩; conv => whnf)
    | (refine And.intro (by first | omega | (simp; done) | (simp; omega)) ?_; conv => whnf)
    | (refine Or.inl (And.intro (by omega) ?_); conv => whnf)
    | (refine Exists.intro _ (And.intro (And.intro (sFrom) rfl) ?_); conv => whnf)
    | (refine Exists.intro _ (Exists.intro _ (And.intro (And.intro (d1 _) rfl) ?_)); conv => whnf)
    | (refine Exists.intro _ (Exists.intro _ (And.intro (And.intro (d2 _) rfl) ?_)); conv => whnf))
  all_goals (first | rfl | trivial)

section
variable (bs : List Int)
noncomputable def bt0 : Int × Nat × Int := pk bs 0 0 5
/-- Where the source stands before storm i. -/
noncomputable def btS : Nat → Nat × Int
  | 0 => ((bt0 bs).2.1, (bt0 bs).2.2)
  | i + 1 =>
    let a := pk bs (btS i).1 (btS i).2 17
    let b := pk bs a.2.1 a.2.2 12
    let c := pk bs b.2.1 b.2.2 17
    let d := pk bs c.2.1 c.2.2 7
    (d.2.1, d.2.2)
noncomputable def btA (i : Nat) : Int × Nat × Int := pk bs (btS bs i).1 (btS bs i).2 17
noncomputable def btB (i : Nat) : Int × Nat × Int := pk bs (btA bs i).2.1 (btA bs i).2.2 12
noncomputable def btC (i : Nat) : Int × Nat × Int := pk bs (btB bs i).2.1 (btB bs i).2.2 17
noncomputable def btD (i : Nat) : Int × Nat × Int := pk bs (btC bs i).2.1 (btC bs i).2.2 7
noncomputable def btT (i : Nat) : S4 := (fop .quo .f32 (foi .f32 (btA bs i).1) (canon .f32 1073741824), fop .quo .f32 (foi .f32 (1 + (btB bs i).1)) (canon .f32 1073741824), fop .quo .f32 (foi .f32 (btC bs i).1) (canon .f32 1082130432), fop .quo .f32 (foi .f32 (1 + (btD bs i).1)) (canon .f32 1090519040))
end
section
variable {bs : List Int} (hb : Byt bs)
include hb
theorem btS_bound : ∀ i : Nat, i ≤ 16 → (btS bs i).1 ≤ 8 * i + 2
  | 0, _ => by
    have h1 := pk_bound (p := 0) (s := 0) (n := 5) hb (by omega) (by omega)
    exact h1.1
  | i + 1, h => by
    have h0 := btS_bound i (by omega)
    have h1 := (pk_bound (p := (btS bs i).1) (s := (btS bs i).2) (n := 17) hb (by omega) (by omega)).1
    have h2 := (pk_bound (p := (btA bs i).2.1) (s := (btA bs i).2.2) (n := 12) hb (by rw [show btA bs i = pk bs (btS bs i).1 (btS bs i).2 17 from rfl]; omega) (by omega)).1
    rw [show pk bs (btS bs i).1 (btS bs i).2 17 = btA bs i from rfl] at h1
    rw [show pk bs (btA bs i).2.1 (btA bs i).2.2 12 = btB bs i from rfl] at h2
    have h3 := (pk_bound (p := (btB bs i).2.1) (s := (btB bs i).2.2) (n := 17) hb (by omega) (by omega)).1
    rw [show pk bs (btB bs i).2.1 (btB bs i).2.2 17 = btC bs i from rfl] at h3
    have h4 := (pk_bound (p := (btC bs i).2.1) (s := (btC bs i).2.2) (n := 7) hb (by omega) (by omega)).1
    rw [show btS bs (i + 1) = ((btD bs i).2.1, (btD bs i).2.2) from rfl]
    rw [show pk bs (btC bs i).2.1 (btC bs i).2.2 7 = btD bs i from rfl] at h4
    dsimp only
    omega
theorem bt_bound {i : Nat} (hi : i < 16) : ((btS bs i).1 ≤ 130 ∧ (btA bs i).2.1 ≤ 140 ∧ (btB bs i).2.1 ≤ 150 ∧ (btC bs i).2.1 ≤ 160) ∧ (0 ≤ (btA bs i).1 ∧ (btA bs i).1 < 17) ∧ (0 ≤ (btB bs i).1 ∧ (btB bs i).1 < 12) ∧ (0 ≤ (btC bs i).1 ∧ (btC bs i).1 < 17) ∧ 0 ≤ (btD bs i).1 ∧ (btD bs i).1 < 7 := by
  have h0 := btS_bound hb i (by omega)
  have h1 := pk_bound (p := (btS bs i).1) (s := (btS bs i).2) (n := 17) hb (by omega) (by omega)
  rw [show pk bs (btS bs i).1 (btS bs i).2 17 = btA bs i from rfl] at h1
  have h2 := pk_bound (p := (btA bs i).2.1) (s := (btA bs i).2.2) (n := 12) hb (by omega) (by omega)
  rw [show pk bs (btA bs i).2.1 (btA bs i).2.2 12 = btB bs i from rfl] at h2
  have h3 := pk_bound (p := (btB bs i).2.1) (s := (btB bs i).2.2) (n := 17) hb (by omega) (by omega)
  rw [show pk bs (btB bs i).2.1 (btB bs i).2.2 17 = btC bs i from rfl] at h3
  have h4 := pk_bound (p := (btC bs i).2.1) (s := (btC bs i).2.2) (n := 7) hb (by omega) (by omega)
  rw [show pk bs (btC bs i).2.1 (btC bs i).2.2 7 = btD bs i from rfl] at h4
  omega
theorem bt0_bound : 0 ≤ (bt0 bs).1 ∧ (bt0 bs).1 < 5 := by
  have h1 := pk_bound (p := 0) (s := 0) (n := 5) hb (by omega) (by omega)
  rw [show pk bs 0 0 5 = bt0 bs from rfl] at h1
  omega
noncomputable def btL (bs : List Int) : List S4 := tabN (btT bs) (bt0 bs).1.toNat
theorem sDrawStorms {t : AV} : Does Try.prog 10 [.sli (.int .u8) bs t] (.own 0 .f4 (btL bs)) := by
  have b0 := bt0_bound hb
  obtain ⟨n, hn⟩ : ∃ n : Nat, (bt0 bs).1 = (n : Int) := ⟨(bt0 bs).1.toNat, by omega⟩
  have hn5 : n < 5 := by omega
  have d0 : ∀ t, DoesP Try.prog 33 [.loc LK 0, .int .i64 5] (srC bs t 0 0) (.int .i64 (bt0 bs).1) (srC bs t (bt0 bs).2.1 (bt0 bs).2.2) := fun t => @sPick bs t 0 0 5 hb (by omega) (by omega)
  rw [hn] at d0
  unfold btL
  rw [hn, Int.toNat_natCast]
  refine Does.of_awp (X := cx 42) Try.func10 rfl (by kernel_rfl) rfl (by simp [cx]) [36] rfl ?_
  conv => whnf
  repeat (first
    | (refine ⟨⟨by kernel_rfl, by kernel_rfl⟩, ?_⟩; conv => whnf)
    | (refine And.intro (by first | omega | (simp; done) | (simp; omega)) ?_; conv => whnf)
    | (refine Or.inl (And.intro (by omega) ?_); conv => whnf)
    | (refine Exists.intro _ (And.intro (And.intro (sFrom) rfl) ?_); conv => whnf)
    | (refine Exists.intro _ (Exists.intro _ (And.intro (And.intro (d0 _) rfl) ?_)); conv => whnf))
  refine ⟨Nat, fun i => i ≤ n, fun i => [(3, .loc 32 0), (4, .osl 36), (5, .int .i64 ((n : Int) - i))], fun i => [(32, .av [.sli (.int .u8) bs t, .int .i64 (btS bs i).1, .int .u64 (btS bs i).2]), (36, .tab .f4 (tabN (btT bs) i))], fun i => n - i, ⟨0, id, Nat.zero_le _, rfl, ⟨rfl, rfl, congrArg (AV.int .i64) (by omega), trivial⟩, ⟨rfl, rfl, trivial⟩⟩, fun i hi => ?_⟩
  conv => whnf
  (refine br_intro (fun h => ?_) (fun h => ?_) <;> (conv => whnf))
  · have h : i < n := by simp at h; omega
    obtain ⟨hp, ha, hbb, hcc, hd⟩ := bt_bound hb (i := i) (by omega)
    have d1 : ∀ t, DoesP Try.prog 33 [.loc LK 0, .int .i64 17] (srC bs t (btS bs i).1 (btS bs i).2) (.int .i64 (btA bs i).1) (srC bs t (btA bs i).2.1 (btA bs i).2.2) := fun t => sPick hb (by omega) (by omega)
    have d2 : ∀ t, DoesP Try.prog 33 [.loc LK 0, .int .i64 12] (srC bs t (btA bs i).2.1 (btA bs i).2.2) (.int .i64 (btB bs i).1) (srC bs t (btB bs i).2.1 (btB bs i).2.2) := fun t => sPick hb (by omega) (by omega)
    have d3 : ∀ t, DoesP Try.prog 33 [.loc LK 0, .int .i64 17] (srC bs t (btB bs i).2.1 (btB bs i).2.2) (.int .i64 (btC bs i).1) (srC bs t (btC bs i).2.1 (btC bs i).2.2) := fun t => sPick hb (by omega) (by omega)
    have d4 : ∀ t, DoesP Try.prog 33 [.loc LK 0, .int .i64 7] (srC bs t (btC bs i).2.1 (btC bs i).2.2) (.int .i64 (btD bs i).1) (srC bs t (btD bs i).2.1 (btD bs i).2.2) := fun t => sPick hb (by omega) (by omega)
    repeat (first
      | (refine ⟨⟨by kernel_rfl, by kernel_rfl⟩, ?_⟩; conv => whnf)
      | (refine And.intro (by first | omega | (simp; done) | (simp; omega)) ?_; conv => whnf)
      | (refine Or.inl (And.intro (by omega) ?_); conv => whnf)
      | (refine Exists.intro _ (Exists.intro _ (And.intro (And.intro (d1 _) rfl) ?_)); conv => whnf)
      | (refine Exists.intro _ (Exists.intro _ (And.intro (And.intro (d2 _) rfl) ?_)); conv => whnf)
      | (refine Exists.intro _ (Exists.intro _ (And.intro (And.intro (d3 _) rfl) ?_)); conv => whnf)
      | (refine Exists.intro _ (Exists.intro _ (And.intro (And.intro (d4 _) rfl) ?_)); conv => whnf))
    refine ⟨i + 1, ren [(36, 160)], ⟨h, by dsimp only; omega⟩, rfl, ⟨rfl, rfl, congrArg (AV.int .i64) (show (n : Int) - i - 1 = n - ((i + 1 : Nat) : Int) by omega), trivial⟩, ⟨rfl, rfl, trivial⟩⟩
  · have h : i = n := by simp at h; omega
    subst h
    repeat (first
      | (refine ⟨⟨by kernel_rfl, by kernel_rfl⟩, ?_⟩; conv => whnf)
      | (refine And.intro (by first | omega | (simp; done) | (simp; omega)) ?_; conv => whnf)
      | (refine Or.inl (And.intro (by omega) ?_); conv => whnf))
    all_goals (first | rfl | trivial)
end

end Go.Proofs.Ytnepjbnoaemmdaa
