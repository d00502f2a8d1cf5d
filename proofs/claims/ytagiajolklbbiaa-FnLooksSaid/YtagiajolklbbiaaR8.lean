/- What each function of this seat does (R8). Printed from templates of this seat's own. -/
import Derived.Test.YtagiajolklbbiaaSmo
import Derived.Test.YtagiajolklbbiaaSrc
import Derived.Test.YtagiajolklbbiaaBxA
import Derived.Test.YtagiajolklbbiaaBxM
namespace Go.Proofs.Ytagiajolklbbiaa
open Go.Ax Go.Bx
set_option maxRecDepth 8000
set_option linter.unusedSimpArgs false
set_option linter.unusedVariables false
/-! Hills of halves. -/
def HillW (W H : Int) (xs : List Nat) : Prop := hillB W H xs = true ∧ ∀ y ∈ xs, y < 2 ^ 32
def hI (z : Int) : Nat := fop .quo .f32 (floatOfInt .f32 z) (canon .f32 1073741824)
/-- A hill whose heights are halves from nought to four. -/
def HalfH (W H : Int) (xs : List Nat) : Prop := HillW W H xs ∧ ∃ h : Nat → Nat, ∀ i, i < xs.length → h i ≤ 8 ∧ xs.getD i 0 = hI (h i : Int)
theorem tab_half : (List.range 9).all (fun a => dyB .f32 1 (a : Int) (hI (a : Int))) = true := by decide +kernel
theorem dy_half {a : Nat} (h : a ≤ 8) : Dy .f32 1 (a : Int) (hI (a : Int)) := dyB_spec (of_tab (p := fun a : Nat => dyB .f32 1 (a : Int) (hI (a : Int))) tab_half (show a < 9 by omega))
theorem hI_lt (z : Int) : hI z < 2 ^ 32 := fop_lt _ _ _

/-! Hills and rain that are drawn. -/
noncomputable def rhA (bs : List Int) : Int × Nat × Int := pk bs 0 0 4
noncomputable def rhB (bs : List Int) : Int × Nat × Int := pk bs (rhA bs).2.1 (rhA bs).2.2 4
noncomputable def rhS (bs : List Int) : Nat → Nat × Int
  | 0 => ((rhB bs).2.1, (rhB bs).2.2)
  | i + 1 => ((pk bs (rhS bs i).1 (rhS bs i).2 9).2.1, (pk bs (rhS bs i).1 (rhS bs i).2 9).2.2)
noncomputable def rhN (bs : List Int) (i : Nat) : Int := (pk bs (rhS bs i).1 (rhS bs i).2 9).1
noncomputable def rhH (bs : List Int) (i : Nat) : Nat := fop .quo .f32 (foi .f32 (rhN bs i)) (canon .f32 1073741824)
noncomputable def rhW (bs : List Int) : Int := 3 + (rhA bs).1
noncomputable def rhV (bs : List Int) : Int := 3 + (rhB bs).1
noncomputable def rhX (bs : List Int) : List Nat := tabN (rhH bs) (rhW bs * rhV bs).toNat
section
variable {bs : List Int} (hb : Byt bs)
include hb
theorem rh_sides : ((rhA bs).2.1 ≤ 2 ∧ (rhB bs).2.1 ≤ 4) ∧ (3 ≤ rhW bs ∧ rhW bs ≤ 6) ∧ 3 ≤ rhV bs ∧ rhV bs ≤ 6 := by
  have h1 := pk_bound (p := 0) (s := 0) (n := 4) hb (by omega) (by omega)
  rw [show pk bs 0 0 4 = rhA bs from rfl] at h1
  have h2 := pk_bound (p := (rhA bs).2.1) (s := (rhA bs).2.2) (n := 4) hb (by omega) (by omega)
  rw [show pk bs _ _ 4 = rhB bs from rfl] at h2
  unfold rhW rhV
  omega
theorem rh_size : 9 ≤ rhW bs * rhV bs ∧ rhW bs * rhV bs ≤ 36 := by
  obtain ⟨_, ⟨h1, h2⟩, h3, h4⟩ := rh_sides hb
  have := Int.mul_le_mul h1 h3 (by omega) (by omega)
  have := Int.mul_le_mul h2 h4 (by omega) (by omega)
  omega
theorem rhS_bound : ∀ i : Nat, i ≤ 1024 → (rhS bs i).1 ≤ 4 + 2 * i
  | 0, _ => (rh_sides hb).1.2
  | i + 1, h => by
    have h0 := rhS_bound i (by omega)
    have := (pk_bound (p := (rhS bs i).1) (s := (rhS bs i).2) (n := 9) hb (by omega) (by omega)).1
    simp only [rhS]; omega
theorem rhN_bound {i : Nat} (h : i ≤ 1024) : 0 ≤ rhN bs i ∧ rhN bs i ≤ 8 := by
  have h0 := rhS_bound hb i h
  have := pk_bound (p := (rhS bs i).1) (s := (rhS bs i).2) (n := 9) hb (by omega) (by omega)
  rw [show (pk bs (rhS bs i).1 (rhS bs i).2 9).1 = rhN bs i from rfl] at this
  omega
theorem rhX_len : ((rhX bs).length : Int) = rhW bs * rhV bs := by
  have := rh_size hb
  unfold rhX
  rw [tabN_len]; omega
/-- A hill that is drawn is a hill of halves. -/
theorem rh_half : HalfH (rhW bs) (rhV bs) (rhX bs) := by
  have hs := rh_size hb
  obtain ⟨_, h1, h2⟩ := rh_sides hb
  have hl := rhX_len hb
  have at' : ∀ i, i < (rhX bs).length → (rhN bs i).toNat ≤ 8 ∧ (rhX bs).getD i 0 = hI (((rhN bs i).toNat : Nat) : Int) := fun i hi => by
    have hi' : i < (rhW bs * rhV bs).toNat := by omega
    have hb' := rhN_bound hb (i := i) (by omega)
    refine ⟨by omega, ?_⟩
    unfold rhX
    rw [tabN_getD (rhH bs) hi' 0, show (((rhN bs i).toNat : Nat) : Int) = rhN bs i by omega]
    unfold rhH hI
    rw [foi_eq]
  refine ⟨⟨?_, fun y hy => ?_⟩, fun i => (rhN bs i).toNat, at'⟩
  · unfold hillB
    rw [show inR (rhW bs) 1 16 = true by simp [inR]; omega, show inR (rhV bs) 1 16 = true by simp [inR]; omega, decide_eq_true hl]
    show finL (rhX bs) = true
    unfold finL
    exact allN_iff.2 fun i hi => by
      obtain ⟨a, e⟩ := at' i hi
      rw [e]; exact (dy_half a).fin
  · obtain ⟨i, hi, e⟩ := List.getElem_of_mem hy
    have := (at' i hi).2
    rw [List.getD_eq_getElem?_getD, List.getElem?_eq_getElem hi, Option.getD_some, e] at this
    rw [this]; exact hI_lt _
end
noncomputable def cxA (N : Nat) : Cx := { P := Try.prog, N, ms := [19, 20, 46], cuts := [], all := true }

set_option maxHeartbeats 4000000 in
theorem sR8Hill {bs : List Int} {t : AV} (hb : Byt bs) : Does Try.prog 5 [.sli (.int .u8) bs t] (.agg [.int .i64 (rhW bs), .int .i64 (rhV bs), .own 0 .f32 (rhX bs)]) := by
  obtain ⟨⟨b1, b2⟩, b3, b4⟩ := rh_sides hb
  have b5 := rh_size hb
  obtain ⟨n, hn⟩ : ∃ n : Nat, rhW bs * rhV bs = (n : Int) := ⟨(rhW bs * rhV bs).toNat, by omega⟩
  have d1 : ∀ t, DoesP Try.prog 20 [.loc LK 0, .int .i64 4] (srC bs t 0 0) (.int .i64 (rhA bs).1) (srC bs t (rhA bs).2.1 (rhA bs).2.2) := fun t => @sPick bs t 0 0 4 hb (by omega) (by omega)
  have d2 : ∀ t, DoesP Try.prog 20 [.loc LK 0, .int .i64 4] (srC bs t (rhA bs).2.1 (rhA bs).2.2) (.int .i64 (rhB bs).1) (srC bs t (rhB bs).2.1 (rhB bs).2.2) := fun t => @sPick bs t (rhA bs).2.1 (rhA bs).2.2 4 hb (by omega) (by omega)
  have eW : (3 : Int) + (rhA bs).1 = rhW bs := rfl
  have eV : (3 : Int) + (rhB bs).1 = rhV bs := rfl
  unfold rhX
  rw [hn, Int.toNat_natCast]
  have b6 : 9 ≤ (3 + (rhA bs).1) * (3 + (rhB bs).1) ∧ (3 + (rhA bs).1) * (3 + (rhB bs).1) ≤ 36 := b5
  have b7 : (3 + (rhA bs).1) * (3 + (rhB bs).1) = (n : Int) := hn
  refine Does.of_awp (X := cxA 35) Try.func5 rfl (by kernel_rfl) rfl (by simp [cxA]) [400] rfl ?_
  conv => whnf
  repeat (first
    | (refine ⟨⟨by kernel_rfl, by kernel_rfl⟩, ?_⟩; conv => whnf)
    | (refine And.intro (by first | omega | (simp; done) | (simp; omega)) ?_; conv => whnf)
    | (refine Or.inl (And.intro (by omega) ?_); conv => whnf)
    | (refine Exists.intro _ (And.intro (And.intro (sFrom) rfl) ?_); conv => whnf)
    | (refine Exists.intro _ (Exists.intro _ (And.intro (And.intro (d1 _) rfl) ?_)); conv => whnf)
    | (refine Exists.intro _ (Exists.intro _ (And.intro (And.intro (d2 _) rfl) ?_)); conv => whnf))
  refine ⟨Nat × Bool, fun p => p.1 ≤ n ∧ (p.2 = true → p.1 = 0), fun p => [(2, .loc 8 0), (3, .loc 28 0), (4, .loc 16 0), (5, .int .i64 ((n : Int) - p.1))], fun p => bif p.2 then [(8, .av [.int .i64 0, .int .i64 0, .emp .f32]), (28, .av [.sli (.int .u8) bs t, .int .i64 (rhS bs 0).1, .int .u64 (rhS bs 0).2]), (16, .av [.int .i64 (rhW bs), .int .i64 (rhV bs), .emp .f32])] else [(8, .av [.int .i64 0, .int .i64 0, .emp .f32]), (28, .av [.sli (.int .u8) bs t, .int .i64 (rhS bs p.1).1, .int .u64 (rhS bs p.1).2]), (16, .av [.int .i64 (rhW bs), .int .i64 (rhV bs), .osl 400]), (400, .tab .f32 (tabN (rhH bs) p.1))], fun p => n - p.1, ⟨(0, true), id, ⟨Nat.zero_le _, fun _ => rfl⟩, rfl, ⟨rfl, rfl, rfl, congrArg (AV.int .i64) (by rw [b7]; simp), trivial⟩, ⟨rfl, rfl, rfl, trivial⟩⟩, fun p hp => ?_⟩
  obtain ⟨i, b⟩ := p
  obtain ⟨hi, hb'⟩ := hp
  dsimp only at hi hb'
  have hN := rhS_bound hb i (by omega)
  have dk : ∀ t, DoesP Try.prog 20 [.loc LK 0, .int .i64 9] (srC bs t (rhS bs i).1 (rhS bs i).2) (.int .i64 (rhN bs i)) (srC bs t (rhS bs (i + 1)).1 (rhS bs (i + 1)).2) := fun t => sPick hb (by omega) (by omega)
  cases b
  · conv => whnf
    (refine br_intro (fun h1 => ?_) (fun h1 => ?_) <;> (conv => whnf))
    · have h1 : i < n := by simp at h1; omega
      repeat (first
        | (refine ⟨⟨by kernel_rfl, by kernel_rfl⟩, ?_⟩; conv => whnf)
        | (refine And.intro (by first | omega | (simp; done) | (simp; omega)) ?_; conv => whnf)
        | (refine Or.inl (And.intro (by omega) ?_); conv => whnf))
      refine ⟨[], ⟨by kernel_rfl, by kernel_rfl⟩, ?_⟩
      conv => whnf
      repeat' (first | exact True.intro | (refine Exists.intro _ (Exists.intro _ (And.intro (And.intro (dk _) rfl) ?_)); conv => whnf) | (refine And.intro ?_ ?_ <;> (conv => whnf)))
      all_goals (first | (refine ⟨(i + 1, false), ren [(400, 128)], ⟨⟨h1, fun e => by cases e⟩, by dsimp only; omega⟩, rfl, ⟨rfl, rfl, rfl, congrArg (AV.int .i64) (show (n : Int) - i - 1 = n - ((i + 1 : Nat) : Int) by omega), trivial⟩, ⟨rfl, rfl, rfl, rfl, trivial⟩⟩) | (show (tabN (rhH bs) i).length + 1 ≤ 67108864; rw [tabN_len]; omega) | (show (-9223372036854775808 : Int) ≤ (n : Int) - i - 1; omega) | (show (n : Int) - i - 1 ≤ (9223372036854775807 : Int); omega))
    · have h1 : i = n := by simp at h1; omega
      subst h1
      repeat (first
        | (refine ⟨⟨by kernel_rfl, by kernel_rfl⟩, ?_⟩; conv => whnf)
        | (refine And.intro (by first | omega | (simp; done) | (simp; omega)) ?_; conv => whnf)
        | (refine Or.inl (And.intro (by omega) ?_); conv => whnf))
      all_goals (try (conv => whnf))
      all_goals (repeat' (first | exact True.intro | (refine And.intro ?_ ?_ <;> (conv => whnf))))
      all_goals (first | rfl | (simp_all []; done) | (simp only [cond_true, cond_false, Bool.and_true, Bool.true_and, Bool.and_false, Bool.false_and]; rfl) | (simp_all []; omega))
  · obtain rfl := hb' rfl
    conv => whnf
    (refine br_intro (fun h1 => ?_) (fun h1 => ?_) <;> (conv => whnf))
    · repeat (first
        | (refine ⟨⟨by kernel_rfl, by kernel_rfl⟩, ?_⟩; conv => whnf)
        | (refine And.intro (by first | omega | (simp; done) | (simp; omega)) ?_; conv => whnf)
        | (refine Or.inl (And.intro (by omega) ?_); conv => whnf))
      refine ⟨[], ⟨by kernel_rfl, by kernel_rfl⟩, ?_⟩
      conv => whnf
      repeat' (first | exact True.intro | (refine Exists.intro _ (Exists.intro _ (And.intro (And.intro (dk _) rfl) ?_)); conv => whnf) | (refine And.intro ?_ ?_ <;> (conv => whnf)))
      all_goals (first | (refine ⟨(1, false), ren [(400, 128)], ⟨⟨by omega, fun e => by cases e⟩, by dsimp only; omega⟩, rfl, ⟨rfl, rfl, rfl, congrArg (AV.int .i64) (show (n : Int) - (0 : Nat) - 1 = n - ((1 : Nat) : Int) by omega), trivial⟩, ⟨rfl, rfl, rfl, rfl, trivial⟩⟩) | (show (-9223372036854775808 : Int) ≤ (n : Int) - (0 : Nat) - 1; omega) | (show (n : Int) - (0 : Nat) - 1 ≤ (9223372036854775807 : Int); omega) | (show (0 : Nat) + 1 ≤ 67108864; omega) | (show (1 : Nat) ≤ 67108864; omega) | decide)
    · exfalso; simp at h1; omega

end Go.Proofs.Ytagiajolklbbiaa
