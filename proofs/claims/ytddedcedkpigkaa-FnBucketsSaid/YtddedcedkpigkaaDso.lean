/- What each function of this seat does (Dso). Printed from templates of this seat's own. -/
import Derived.Test.YtddedcedkpigkaaDrw
namespace Go.Proofs.Ytddedcedkpigkaa
open Go.Ax Go.Bx
set_option maxRecDepth 8000
set_option linter.unusedSimpArgs false
set_option linter.unusedVariables false
noncomputable def o1 (bs : List Int) : Int × Nat × Int := pk bs 0 0 9
noncomputable def o2 (bs : List Int) : Int × Nat × Int := pk bs (o1 bs).2.1 (o1 bs).2.2 9
noncomputable def o3 (bs : List Int) : Int × Nat × Int := pk bs (o2 bs).2.1 (o2 bs).2.2 17
noncomputable def o4 (bs : List Int) : Int × Nat × Int := pk bs (o3 bs).2.1 (o3 bs).2.2 5
noncomputable def o5 (bs : List Int) : Int × Nat × Int := pk bs (o4 bs).2.1 (o4 bs).2.2 9
noncomputable def oA (bs : List Int) : Nat := fop .quo .f32 (foi .f32 (o1 bs).1) (canon .f32 1082130432)
noncomputable def oB (bs : List Int) : Nat := fop .quo .f32 (foi .f32 (o2 bs).1) (canon .f32 1082130432)
noncomputable def oC (bs : List Int) : Nat := fop .quo .f32 (foi .f32 (o3 bs).1) (canon .f32 1073741824)
noncomputable def oD (bs : List Int) : Nat := fop .quo .f32 (foi .f32 (o4 bs).1) (canon .f32 1090519040)
noncomputable def oE (bs : List Int) : Nat := fop .quo .f32 (fop .mul .f32 (oC bs) (foi .f32 (o5 bs).1)) (canon .f32 1090519040)
theorem o_bound {bs : List Int} (hb : Byt bs) : ((o1 bs).2.1 ≤ 2 ∧ 0 ≤ (o1 bs).1 ∧ (o1 bs).1 < 9) ∧ ((o2 bs).2.1 ≤ 4 ∧ 0 ≤ (o2 bs).1 ∧ (o2 bs).1 < 9) ∧ ((o3 bs).2.1 ≤ 6 ∧ 0 ≤ (o3 bs).1 ∧ (o3 bs).1 < 17) ∧ ((o4 bs).2.1 ≤ 8 ∧ 0 ≤ (o4 bs).1 ∧ (o4 bs).1 < 5) ∧ 0 ≤ (o5 bs).1 ∧ (o5 bs).1 < 9 := by
  have h1 := pk_bound (p := 0) (s := 0) (n := 9) hb (by omega) (by omega)
  rw [show pk bs 0 0 9 = o1 bs from rfl] at h1
  have h2 := pk_bound (p := (o1 bs).2.1) (s := (o1 bs).2.2) (n := 9) hb (by omega) (by omega)
  rw [show pk bs _ _ 9 = o2 bs from rfl] at h2
  have h3 := pk_bound (p := (o2 bs).2.1) (s := (o2 bs).2.2) (n := 17) hb (by omega) (by omega)
  rw [show pk bs _ _ 17 = o3 bs from rfl] at h3
  have h4 := pk_bound (p := (o3 bs).2.1) (s := (o3 bs).2.2) (n := 5) hb (by omega) (by omega)
  rw [show pk bs _ _ 5 = o4 bs from rfl] at h4
  have h5 := pk_bound (p := (o4 bs).2.1) (s := (o4 bs).2.2) (n := 9) hb (by omega) (by omega)
  rw [show pk bs _ _ 9 = o5 bs from rfl] at h5
  omega
noncomputable def cxA (N : Nat) : Cx := { P := Try.prog, N, ms := [27, 28, 42], cuts := [], all := true }

theorem sDrawSoil {bs : List Int} {t : AV} (hb : Byt bs) : Does Try.prog 17 [.sli (.int .u8) bs t] (.agg [.flt .f32 (oA bs), .flt .f32 (oB bs), .flt .f32 (oC bs), .flt .f32 (oD bs), .flt .f32 (oE bs)]) := by
  obtain ⟨h1, h2, h3, h4, h5⟩ := o_bound hb
  have d1 : ∀ t, _ := fun t => @sPick bs t 0 0 9 hb (by omega) (by omega)
  have d2 : ∀ t, _ := fun t => @sPick bs t (o1 bs).2.1 (o1 bs).2.2 9 hb (by omega) (by omega)
  have d3 : ∀ t, _ := fun t => @sPick bs t (o2 bs).2.1 (o2 bs).2.2 17 hb (by omega) (by omega)
  have d4 : ∀ t, _ := fun t => @sPick bs t (o3 bs).2.1 (o3 bs).2.2 5 hb (by omega) (by omega)
  have d5 : ∀ t, _ := fun t => @sPick bs t (o4 bs).2.1 (o4 bs).2.2 9 hb (by omega) (by omega)
  refine Does.of_awp (X := cxA 35) Try.func17 rfl (by kernel_rfl) rfl (by simp [cxA]) [] rfl ?_
  conv => whnf
  repeat (first
    | (refine ⟨⟨by kernel_rfl, by kernel_rfl⟩, ?_⟩; conv => whnf)
    | (refine And.intro (by first | omega | (simp; done) | (simp; omega)) ?_; conv => whnf)
    | (refine Or.inl (And.intro (by omega) ?_); conv => whnf)
    | (refine Exists.intro _ (And.intro (And.intro (sFrom) rfl) ?_); conv => whnf)
    | (refine Exists.intro _ (Exists.intro _ (And.intro (And.intro (d1 _) rfl) ?_)); conv => whnf)
    | (refine Exists.intro _ (Exists.intro _ (And.intro (And.intro (d2 _) rfl) ?_)); conv => whnf)
    | (refine Exists.intro _ (Exists.intro _ (And.intro (And.intro (d3 _) rfl) ?_)); conv => whnf)
    | (refine Exists.intro _ (Exists.intro _ (And.intro (And.intro (d4 _) rfl) ?_)); conv => whnf))
  refine ⟨by kernel_rfl, ?_⟩
  conv => whnf
  repeat' (first | exact True.intro | (refine Exists.intro _ (Exists.intro _ (And.intro (And.intro (d5 _) rfl) ?_)); conv => whnf) | (refine And.intro ?_ ?_ <;> (conv => whnf)))
  all_goals (first | rfl | (simp_all [oA, oB, oC, oD, oE, o1, o2, o3, o4, o5]; done))

end Go.Proofs.Ytddedcedkpigkaa
