/- What each function of this seat does (Wo2). Printed from templates of this seat's own. -/
import Derived.Test.YtngmlbeafdaolaaWo1
namespace Go.Proofs.Ytngmlbeafdaolaa
open Go.Ax Go.Bx
set_option maxRecDepth 8000
set_option linter.unusedSimpArgs false
set_option linter.unusedVariables false
theorem P32_0 : P32 (hI 0) = 0 := by decide +kernel
theorem hI_0 : hI 0 = canon .f32 0 := by decide +kernel
theorem hI_lt (z : Int) : hI z < 2 ^ 32 := fop_lt _ _ _
/-- A filled hill of halves is a hill of halves. -/
theorem fil_half {W H : Int} {xs : List Nat} (hx : HalfH W H xs) : HalfH W H (filW W H xs) := by
  obtain ⟨hh, h, hg⟩ := hx
  obtain ⟨o, ho⟩ := fh_ex hh
  refine ⟨filW_hill hh ho, ?_⟩
  have el := (filW_ok hh).2
  have level : ∀ i, i < xs.length → ∃ j, j < xs.length ∧ P32 (o.getD i 0) = P32 (xs.getD j 0) := fun i hi => by
    apply Classical.byContradiction
    intro hno
    have hno : ∀ j, j < xs.length → P32 (o.getD i 0) ≠ P32 (xs.getD j 0) := fun j hj e => hno ⟨j, hj, e⟩
    have := ho.1.2.2.2.2 (fun j => if P32 (o.getD j 0) = P32 (o.getD i 0) then P32 (o.getD i 0) + 1 else P32 (o.getD j 0)) ⟨fun j hj he => ?_, fun j hj he k hk hO => ?_⟩ i hi
    · try dsimp only at this
      rw [if_pos rfl] at this
      omega
    · have e := ho.1.2.2.1 j hj he
      have := hno j hj
      dsimp only
      rw [if_neg (by omega)]
      omega
    · have n1 := (nbC_lt hh hO).2.2
      have h1 := ho.2 j hj he k hk hO
      have h2 := ho.1.2.2.2.1 j hj
      have h3 := hno j hj
      dsimp only at h1 ⊢
      split <;> split <;> omega
  let pick : Nat → Nat := fun i => if hi : i < xs.length then Classical.choose (level i hi) else 0
  refine ⟨fun i => h (pick i), fun i hi => ?_⟩
  rw [el] at hi
  have hp : pick i < xs.length ∧ P32 (o.getD i 0) = P32 (xs.getD (pick i) 0) := by
    have := Classical.choose_spec (level i hi)
    show (if hi : i < xs.length then Classical.choose (level i hi) else 0) < _ ∧ _ = P32 (xs.getD (if hi : i < xs.length then Classical.choose (level i hi) else 0) 0)
    rw [dif_pos hi]; exact this
  obtain ⟨g1, g2⟩ := hg (pick i) hp.1
  obtain ⟨a1, a2⟩ := hg i hi
  refine ⟨g1, ?_⟩
  show (filW W H xs).getD i 0 = hI ((h (pick i) : Nat) : Int)
  have ef : (filW W H xs).getD i 0 = nzW (xs.getD i 0) (o.getD i 0) := by
    rw [← filW_eq hh ho]
    unfold filR
    exact tabN_getD (fun i => nzW (xs.getD i 0) (o.getD i 0)) hi 0
  have hn := nzW_pos (hh.nn hi).1 (ho.1.2.1 i hi)
  have hP : P32 ((filW W H xs).getD i 0) = P32 (hI (h (pick i) : Int)) := by rw [ef, hn.1, hp.2, g2]
  by_cases h0 : h (pick i) = 0
  · rw [h0] at hP ⊢
    rw [ef]
    have hP0 : P32 (o.getD i 0) = 0 := by rw [hp.2, g2, h0]; exact P32_0
    unfold nzW
    rw [eql_num (ho.1.2.1 i hi).1 (hh.nn hi).1.1, eql_num (ho.1.2.1 i hi).1 nn0.1]
    by_cases e1 : pos .f32 (o.getD i 0) = pos .f32 (xs.getD i 0)
    · rw [decide_eq_true e1, cond_true, a2]
      have e2 : P32 (xs.getD i 0) = 0 := by rw [← hP0]; exact e1.symm
      rw [a2] at e2
      have := P32_half a1 (show 0 ≤ 8 by omega)
      have h00 : P32 (hI ((0 : Nat) : Int)) = 0 := P32_0
      have : h i = 0 := by omega
      rw [this]
    · rw [decide_eq_false e1, cond_false, decide_eq_true (show pos .f32 (o.getD i 0) = pos .f32 (canon .f32 0) by show P32 (o.getD i 0) = P32 (canon .f32 0); rw [hP0, pos0]), cond_true]
      exact hI_0.symm
  · refine pos_word ?_ (hI_lt _) hP ?_
    · rw [ef]; exact hn.2.2
    · have b1 := P32_half g1 (show 0 ≤ 8 by omega)
      have b2 := P32_half (show 0 ≤ 8 by omega) g1
      have h00 : P32 (hI ((0 : Nat) : Int)) = 0 := P32_0
      omega
/-- What is known of a filled hill. -/
structure FilK (W H : Int) (xs : List Nat) : Prop where
  len : (filW W H xs).length = xs.length
  edge : ∀ i : Nat, i < xs.length → edB W H i = true → P32 ((filW W H xs).getD i 0) = P32 (xs.getD i 0)
  up : ∀ i, i < xs.length → P32 (xs.getD i 0) ≤ P32 ((filW W H xs).getD i 0)
  top : ∀ q : Nat → Int, fhGood W H xs q → ∀ i, i < xs.length → q i ≤ P32 ((filW W H xs).getD i 0)
  fix : ∀ i : Nat, i < xs.length → edB W H i = false → fhAt W H xs (fun i => P32 ((filW W H xs).getD i 0)) i
theorem filK {W H : Int} {xs : List Nat} (hh : HillW W H xs) : FilK W H xs := by
  obtain ⟨o, ho⟩ := fh_ex hh
  have el := (filW_ok hh).2
  have e : ∀ i, i < xs.length → P32 ((filW W H xs).getD i 0) = P32 (o.getD i 0) := fun i hi => by
    rw [← filW_eq hh ho]
    unfold filR
    rw [tabN_getD (fun i => nzW (xs.getD i 0) (o.getD i 0)) hi 0]
    exact (nzW_pos (hh.nn hi).1 (ho.1.2.1 i hi)).1
  refine ⟨el, fun i hi he => by rw [e i hi]; exact ho.1.2.2.1 i hi he, fun i hi => by rw [e i hi]; exact ho.1.2.2.2.1 i hi, fun q hq i hi => by rw [e i hi]; exact ho.1.2.2.2.2 q hq i hi, fun i hi he k hk hO => ?_⟩
  have h1 := ho.2 i hi he k hk hO
  dsimp only at h1 ⊢
  rw [e i hi, e _ (nbC_lt hh hO).2.2]
  exact h1
theorem cel_of {W H : Int} {xs : List Nat} (hh : HillW W H xs) {i : Nat} (hi : i < xs.length) : Cel W H (i : Int) := by
  have := hill_len hh.1
  refine ⟨by omega, by omega, by omega⟩
theorem waL_at {W H : Int} {f : List Nat} (hf : HillW W H f) {i : Nat} (hi : i < f.length) : (waL W H f).getD i 0 = (flR W H f (i : Nat)).1 := by
  have := hill_len hf.1
  unfold waL
  exact tabN_getD (fun i => (flR W H f (i : Nat)).1) (show i < (W * H).toNat by omega) 0
section
variable {W H : Int} {xs : List Nat} (hx : HalfH W H xs) (hn : xs.length ≤ 100)
noncomputable def fW (W H : Int) (xs : List Nat) : List Nat := filW W H xs
noncomputable def sW (W H : Int) (xs : List Nat) : List Int := stW 256 W H (filW W H xs) (waL W H (filW W H xs))
include hx hn
/-- Each cell of a filled hill has a way out. -/
theorem no_stuck {i : Nat} (hi : i < xs.length) (hz : stZ W H (waL W H (filW W H xs)) i = false) : (sW W H xs).getD i 0 < 256 := by
  have hh := hx.1
  have hf := fil_half hx
  have K := filK hh
  have F := stW_fix (N := 256) (W := W) (H := H) (f := filW W H xs) (ds := waL W H (filW W H xs)) hf.1 (by omega)
  have hz0 : ∀ j, j < xs.length → stZ W H (waL W H (filW W H xs)) j = true → (sW W H xs).getD j 0 = 0 := fun j hj h => (F.1.2.1 j (by rw [K.len]; exact hj)).1 h
  have hle : ∀ j, j < xs.length → (sW W H xs).getD j 0 ≤ 256 := fun j hj => (F.1.2.1 j (by rw [K.len]; exact hj)).2.2.1
  apply Classical.byContradiction
  intro hno
  have e256 : (sW W H xs).getD i 0 = 256 := by have := hle i hi; omega
  have := K.top (fun j => if (sW W H xs).getD j 0 = 256 then P32 ((filW W H xs).getD j 0) + 1 else P32 ((filW W H xs).getD j 0)) ⟨fun j hj he => ?_, fun j hj he k hk hO => ?_⟩ i hi
  · try dsimp only at this
    rw [if_pos e256] at this
    omega
  · have : (sW W H xs).getD j 0 = 0 := hz0 j hj (by rw [stZ, he]; rfl)
    dsimp only
    rw [if_neg (by omega), K.edge j hj he]
    exact Int.le_refl _
  · have n1 := (nbC_lt hh hO).2.2
    have h1 := K.fix j hj he k hk hO
    dsimp only at h1 ⊢
    by_cases hU : (sW W H xs).getD j 0 = 256
    · rw [if_pos hU]
      have hZ : stZ W H (waL W H (filW W H xs)) j = false := by
        cases h : stZ W H (waL W H (filW W H xs)) j with
        | false => rfl
        | true => have := hz0 j hj h; omega
      have hd : (waL W H (filW W H xs)).getD j 0 < 0 := by
        rw [stZ, he, Bool.false_or, decide_eq_false_iff_not] at hZ
        omega
      have jl : j < (filW W H xs).length := by rw [K.len]; exact hj
      rw [waL_at hf.1 jl] at hd
      have low : P32 ((filW W H xs).getD j 0) ≤ P32 ((filW W H xs).getD (nbC W j k).toNat 0) := by
        rcases (fl_facts hf (cel_of hf.1 jl)).2 with ⟨_, g⟩ | ⟨k', _, hO', e', _⟩
        · have := g k hk hO
          rwa [Int.toNat_natCast] at this
        · have := (nbC_lt hh hO').1
          omega
      by_cases he2 : P32 ((filW W H xs).getD (nbC W j k).toNat 0) = P32 ((filW W H xs).getD j 0)
      · have hA : stA W H (filW W H xs) j k = true := by
          rw [stA_eq hO, eql_num (hf.1.nn (by rw [K.len]; exact n1)).1.1 (hf.1.nn jl).1.1]
          exact decide_eq_true he2
        have h2 := F.2 j jl k hk hA
        have h3 := hle _ n1
        have hs : (sW W H xs).getD (nbC W j k).toNat 0 = 256 := by
          apply Classical.byContradiction
          intro hne
          have h4 := st_small hf.1 F (i := (nbC W j k).toNat) (by rw [K.len]; exact n1) (by show (sW W H xs).getD _ 0 < 256; omega)
          have h5 : (sW W H xs).getD (nbC W j k).toNat 0 < ((filW W H xs).length : Int) := h4
          have h6 : (sW W H xs).getD j 0 ≤ (sW W H xs).getD (nbC W j k).toNat 0 + 1 := h2
          rw [K.len] at h5
          omega
        rw [if_pos hs]
        omega
      · have : P32 ((filW W H xs).getD j 0) + 1 ≤ (if (sW W H xs).getD (nbC W j k).toNat 0 = 256 then P32 ((filW W H xs).getD (nbC W j k).toNat 0) + 1 else P32 ((filW W H xs).getD (nbC W j k).toNat 0)) := by split <;> omega
        omega
    · rw [if_neg hU]
      have : P32 ((filW W H xs).getD (nbC W j k).toNat 0) ≤ (if (sW W H xs).getD (nbC W j k).toNat 0 = 256 then P32 ((filW W H xs).getD (nbC W j k).toNat 0) + 1 else P32 ((filW W H xs).getD (nbC W j k).toNat 0)) := by split <;> omega
      omega
end

end Go.Proofs.Ytngmlbeafdaolaa
