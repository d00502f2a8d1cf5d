/- What each function of this seat does (Wo1). Printed from templates of this seat's own. -/
import Derived.Test.YtngmlbeafdaolaaRun
import Derived.Test.YtngmlbeafdaolaaBxL
namespace Go.Proofs.Ytngmlbeafdaolaa
open Go.Ax Go.Bx
set_option maxRecDepth 8000
set_option linter.unusedSimpArgs false
set_option linter.unusedVariables false
/-! Hills of halves: where cells fall. -/
def hI (z : Int) : Nat := fop .quo .f32 (floatOfInt .f32 z) (canon .f32 1073741824)
/-- A hill whose heights are halves from nought to four. -/
def HalfH (W H : Int) (xs : List Nat) : Prop := HillW W H xs ∧ ∃ h : Nat → Nat, ∀ i, i < xs.length → h i ≤ 8 ∧ xs.getD i 0 = hI (h i : Int)
def flT (a b f : Nat) : Nat := fop .quo .f32 (fop .sub .f32 (hI (a : Int)) (hI (b : Int))) f
def flOk (a b f : Nat) : Bool := decide (rungOf FloatKind.f32.format (flT a b f) < FloatKind.f32.format.infRung) && (if b < a then decide (0 < sv .f32 (flT a b f)) else decide (sv .f32 (flT a b f) ≤ 0))
theorem tab_fall : (List.range 9).all (fun a => (List.range 9).all fun b => flOk a b (canon .f32 1068827891) && flOk a b (canon .f32 1065353216)) = true := by decide +kernel
theorem tab_half : (List.range 9).all (fun a => dyB .f32 1 (a : Int) (hI (a : Int))) = true := by decide +kernel
theorem dy_half {a : Nat} (h : a ≤ 8) : Dy .f32 1 (a : Int) (hI (a : Int)) := dyB_spec (of_tab (p := fun a : Nat => dyB .f32 1 (a : Int) (hI (a : Int))) tab_half (show a < 9 by omega))
theorem P32_half {a b : Nat} (ha : a ≤ 8) (hb : b ≤ 8) : P32 (hI (a : Int)) ≤ P32 (hI (b : Int)) ↔ a ≤ b := by
  have := (dy_half ha).le_iff (dy_half hb)
  unfold P32
  omega
theorem fl_half {a b k : Nat} (ha : a ≤ 8) (hb : b ≤ 8) : Ax.Fin .f32 (flT a b (farK k)) ∧ (b < a → 0 < sv .f32 (flT a b (farK k))) ∧ (a ≤ b → sv .f32 (flT a b (farK k)) ≤ 0) := by
  have t := of_tab (of_tab tab_fall (show a < 9 by omega)) (show b < 9 by omega)
  rw [Bool.and_eq_true] at t
  have key : ∀ f, flOk a b f = true → Ax.Fin .f32 (flT a b f) ∧ (b < a → 0 < sv .f32 (flT a b f)) ∧ (a ≤ b → sv .f32 (flT a b f) ≤ 0) := fun f h => by
    unfold flOk at h
    rw [Bool.and_eq_true, decide_eq_true_eq] at h
    refine ⟨h.1, fun g => ?_, fun g => ?_⟩
    · have := h.2; rw [if_pos g] at this; exact of_decide_eq_true this
    · have := h.2; rw [if_neg (by omega)] at this; exact of_decide_eq_true this
  unfold farK
  cases k % 2 == 1
  · exact key _ t.2
  · exact key _ t.1
theorem farK_of {W H c : Int} : ∀ {K : Nat} {r : Int × Nat}, r ∈ nbL W H c K → ∃ k, k < K ∧ nbOk W H c k = true ∧ r = (nbC W c k, farK k)
  | 0, r, h => by simp [nbL] at h
  | K + 1, r, h => by
    cases hO : nbOk W H c K with
    | false =>
      rw [← nbL_no hO] at h
      obtain ⟨k, h1, h2⟩ := farK_of h
      exact ⟨k, by omega, h2⟩
    | true =>
      rw [← nbL_yes hO, List.mem_append, List.mem_singleton] at h
      rcases h with h | h
      · obtain ⟨k, h1, h2⟩ := farK_of h
        exact ⟨k, by omega, h2⟩
      · exact ⟨K, by omega, hO, h⟩
section
variable {W H : Int} {xs : List Nat} (hx : HalfH W H xs)
include hx
/-- What the search for the steepest fall knows. -/
def flKnow (xs : List Nat) (c : Int) (s : Int × Nat) (done : List (Int × Nat)) : Prop := Ax.Fin .f32 s.2 ∧
  ((s = (-1, canon .f32 0) ∧ ∀ r ∈ done, P32 (xs.getD c.toNat 0) ≤ P32 (xs.getD r.1.toNat 0)) ∨ (∃ r ∈ done, s.1 = r.1 ∧ 0 < sv .f32 s.2 ∧ P32 (xs.getD r.1.toNat 0) < P32 (xs.getD c.toNat 0)))
theorem fl_know {c : Int} (hc : Cel W H c) : ∀ (l : List (Int × Nat)) (s : Int × Nat) (done : List (Int × Nat)), (∀ r ∈ l, r ∈ nbL W H c 8) → flKnow xs c s done → flKnow xs c (l.foldl (flF xs c) s) (done ++ l)
  | [], s, done, _, h => by simpa using h
  | r :: l, s, done, hl, h => by
    rw [List.foldl_cons, show done ++ r :: l = (done ++ [r]) ++ l by simp]
    refine fl_know hc l _ _ (fun r' h' => hl r' (List.mem_cons_of_mem _ h')) ?_
    obtain ⟨k, hk, hO, rfl⟩ := farK_of (hl r (List.mem_cons_self ..))
    obtain ⟨hh, g, hg⟩ := hx
    have hc' : c.toNat < xs.length := by
      have := hill_len hh.1
      have := hc.2
      omega
    obtain ⟨n1, n2, n3⟩ := nbC_lt hh (i := c.toNat) (k := k) (by rw [show ((c.toNat : Nat) : Int) = c by have := hc.2; omega]; exact hO)
    rw [show ((c.toNat : Nat) : Int) = c by have := hc.2; omega] at n1 n2 n3
    obtain ⟨a1, a2⟩ := hg c.toNat hc'
    obtain ⟨b1, b2⟩ := hg (nbC W c k).toNat n3
    have eD : flD xs c (nbC W c k, farK k) = flT (g c.toNat) (g (nbC W c k).toNat) (farK k) := by
      unfold flD flT
      rw [a2, b2]
    obtain ⟨f1, f2, f3⟩ := fl_half (k := k) a1 b1
    have z0 : Ax.Fin .f32 (canon .f32 0) ∧ sv .f32 (canon .f32 0) = 0 := by
      have h := dy_zero 0 (by omega)
      exact ⟨h.1, by rw [h.2.2, Int.zero_mul]⟩
    have hP := P32_half a1 b1
    have hP' := P32_half b1 a1
    obtain ⟨hf, hs⟩ := h
    unfold flF
    rw [eD]
    have cmp : fcmp .gtr .f32 (flT (g c.toNat) (g (nbC W c k).toNat) (farK k)) s.2 = decide (sv .f32 s.2 < sv .f32 (flT (g c.toNat) (g (nbC W c k).toNat) (farK k))) := by
      rw [cmp_gtr f1.num hf.num]
      have := pos_sv (k := .f32) (x := flT (g c.toNat) (g (nbC W c k).toNat) (farK k)) (y := s.2)
      exact decide_eq_decide.2 (by omega)
    have s0 : 0 ≤ sv .f32 s.2 := by
      rcases hs with ⟨e, _⟩ | ⟨r', _, _, h', _⟩
      · rw [e]; show 0 ≤ sv .f32 (canon .f32 0); rw [z0.2]; exact Int.le_refl _
      · omega
    rw [cmp]
    by_cases hlt : sv .f32 s.2 < sv .f32 (flT (g c.toNat) (g (nbC W c k).toNat) (farK k))
    · rw [decide_eq_true hlt, cond_true]
      refine ⟨f1, .inr ⟨(nbC W c k, farK k), by simp, rfl, by show 0 < sv .f32 (flT (g c.toNat) (g (nbC W c k).toNat) (farK k)); omega, ?_⟩⟩
      show P32 (xs.getD (nbC W c k).toNat 0) < P32 (xs.getD c.toNat 0)
      rw [a2, b2]
      have : ¬ g c.toNat ≤ g (nbC W c k).toNat := fun h' => by have := f3 h'; omega
      omega
    · rw [decide_eq_false hlt, cond_false]
      refine ⟨hf, ?_⟩
      rcases hs with ⟨e, h1⟩ | ⟨r', m, h1, h2, h3⟩
      · left
        refine ⟨e, fun r' m => ?_⟩
        rw [List.mem_append, List.mem_singleton] at m
        rcases m with m | m
        · exact h1 r' m
        · subst m
          show P32 (xs.getD c.toNat 0) ≤ P32 (xs.getD (nbC W c k).toNat 0)
          rw [a2, b2]
          have es : sv .f32 s.2 = 0 := by rw [e]; exact z0.2
          have : ¬ g (nbC W c k).toNat < g c.toNat := fun h' => by have := f2 h'; omega
          omega
      · exact .inr ⟨r', List.mem_append_left _ m, h1, h2, h3⟩
/-- Where a cell falls, and how steeply. -/
theorem fl_facts {c : Int} (hc : Cel W H c) : Ax.Fin .f32 (flR W H xs c).2 ∧
    ((flR W H xs c = (-1, canon .f32 0) ∧ ∀ k, k < 8 → nbOk W H c k = true → P32 (xs.getD c.toNat 0) ≤ P32 (xs.getD (nbC W c k).toNat 0)) ∨
     (∃ k, k < 8 ∧ nbOk W H c k = true ∧ (flR W H xs c).1 = nbC W c k ∧ 0 < sv .f32 (flR W H xs c).2 ∧ P32 (xs.getD (nbC W c k).toNat 0) < P32 (xs.getD c.toNat 0))) := by
  have z0 : Ax.Fin .f32 (canon .f32 0) := (dy_zero 0 (by omega)).1
  have h := fl_know hx hc (nbL W H c 8) (-1, canon .f32 0) [] (fun r h => h) ⟨z0, .inl ⟨rfl, fun r h => by simp at h⟩⟩
  rw [List.nil_append, show (nbL W H c 8).foldl (flF xs c) (-1, canon .f32 0) = flR W H xs c from (flR_eq W H xs c).symm] at h
  refine ⟨h.1, ?_⟩
  rcases h.2 with ⟨e, h1⟩ | ⟨r, m, h1, h2, h3⟩
  · left
    refine ⟨e, fun k hk hO => ?_⟩
    obtain ⟨r, m, e'⟩ := nbL_in hO hk
    rw [← e']
    exact h1 r m
  · right
    obtain ⟨k, hk, hO, rfl⟩ := farK_of m
    exact ⟨k, hk, hO, h1, h2, h3⟩
end

theorem P32_0 : P32 (hI 0) = 0 := by decide +kernel
theorem hI_0 : hI 0 = canon .f32 0 := by decide +kernel
theorem hI_lt (z : Int) : hI z < 2 ^ 32 := fop_lt _ _ _
/-- A filled hill of halves is a hill of halves. -/
theorem fil_half {W H : Int} {xs : List Nat} (hx : HalfH W H xs) : HalfH W H (filW W H xs) := by
  obtain ⟨hh, h, hg⟩ := hx
  obtain ⟨o, ho⟩ := fh_ex hh
  refine ⟨filW_hill hh ho, ?_⟩
  have el := (filW_ok hh).2
  have level : ∀ i, i < xs.length → ∃ j, j < xs.length ∧ P32 (o.getD i 0) = P32 (xs.getD j 0) := fun i hi => by
    apply Classical.byContradiction
    intro hno
    have hno : ∀ j, j < xs.length → P32 (o.getD i 0) ≠ P32 (xs.getD j 0) := fun j hj e => hno ⟨j, hj, e⟩
    have := ho.1.2.2.2.2 (fun j => if P32 (o.getD j 0) = P32 (o.getD i 0) then P32 (o.getD i 0) + 1 else P32 (o.getD j 0)) ⟨fun j hj he => ?_, fun j hj he k hk hO => ?_⟩ i hi
    · try dsimp only at this
      rw [if_pos rfl] at this
      omega
    · have e := ho.1.2.2.1 j hj he
      have := hno j hj
      dsimp only
      rw [if_neg (by omega)]
      omega
    · have n1 := (nbC_lt hh hO).2.2
      have h1 := ho.2 j hj he k hk hO
      have h2 := ho.1.2.2.2.1 j hj
      have h3 := hno j hj
      dsimp only at h1 ⊢
      split <;> split <;> omega
  let pick : Nat → Nat := fun i => if hi : i < xs.length then Classical.choose (level i hi) else 0
  refine ⟨fun i => h (pick i), fun i hi => ?_⟩
  rw [el] at hi
  have hp : pick i < xs.length ∧ P32 (o.getD i 0) = P32 (xs.getD (pick i) 0) := by
    have := Classical.choose_spec (level i hi)
    show (if hi : i < xs.length then Classical.choose (level i hi) else 0) < _ ∧ _ = P32 (xs.getD (if hi : i < xs.length then Classical.choose (level i hi) else 0) 0)
    rw [dif_pos hi]; exact this
  obtain ⟨g1, g2⟩ := hg (pick i) hp.1
  obtain ⟨a1, a2⟩ := hg i hi
  refine ⟨g1, ?_⟩
  show (filW W H xs).getD i 0 = hI ((h (pick i) : Nat) : Int)
  have ef : (filW W H xs).getD i 0 = nzW (xs.getD i 0) (o.getD i 0) := by
    rw [← filW_eq hh ho]
    unfold filR
    exact tabN_getD (fun i => nzW (xs.getD i 0) (o.getD i 0)) hi 0
  have hn := nzW_pos (hh.nn hi).1 (ho.1.2.1 i hi)
  have hP : P32 ((filW W H xs).getD i 0) = P32 (hI (h (pick i) : Int)) := by rw [ef, hn.1, hp.2, g2]
  by_cases h0 : h (pick i) = 0
  · rw [h0] at hP ⊢
    rw [ef]
    have hP0 : P32 (o.getD i 0) = 0 := by rw [hp.2, g2, h0]; exact P32_0
    unfold nzW
    rw [eql_num (ho.1.2.1 i hi).1 (hh.nn hi).1.1, eql_num (ho.1.2.1 i hi).1 nn0.1]
    by_cases e1 : pos .f32 (o.getD i 0) = pos .f32 (xs.getD i 0)
    · rw [decide_eq_true e1, cond_true, a2]
      have e2 : P32 (xs.getD i 0) = 0 := by rw [← hP0]; exact e1.symm
      rw [a2] at e2
      have := P32_half a1 (show 0 ≤ 8 by omega)
      have h00 : P32 (hI ((0 : Nat) : Int)) = 0 := P32_0
      have : h i = 0 := by omega
      rw [this]
    · rw [decide_eq_false e1, cond_false, decide_eq_true (show pos .f32 (o.getD i 0) = pos .f32 (canon .f32 0) by show P32 (o.getD i 0) = P32 (canon .f32 0); rw [hP0, pos0]), cond_true]
      exact hI_0.symm
  · refine pos_word ?_ (hI_lt _) hP ?_
    · rw [ef]; exact hn.2.2
    · have b1 := P32_half g1 (show 0 ≤ 8 by omega)
      have b2 := P32_half (show 0 ≤ 8 by omega) g1
      have h00 : P32 (hI ((0 : Nat) : Int)) = 0 := P32_0
      omega
/-- What is known of a filled hill. -/
structure FilK (W H : Int) (xs : List Nat) : Prop where
  len : (filW W H xs).length = xs.length
  edge : ∀ i : Nat, i < xs.length → edB W H i = true → P32 ((filW W H xs).getD i 0) = P32 (xs.getD i 0)
  up : ∀ i, i < xs.length → P32 (xs.getD i 0) ≤ P32 ((filW W H xs).getD i 0)
  top : ∀ q : Nat → Int, fhGood W H xs q → ∀ i, i < xs.length → q i ≤ P32 ((filW W H xs).getD i 0)
  fix : ∀ i : Nat, i < xs.length → edB W H i = false → fhAt W H xs (fun i => P32 ((filW W H xs).getD i 0)) i
theorem filK {W H : Int} {xs : List Nat} (hh : HillW W H xs) : FilK W H xs := by
  obtain ⟨o, ho⟩ := fh_ex hh
  have el := (filW_ok hh).2
  have e : ∀ i, i < xs.length → P32 ((filW W H xs).getD i 0) = P32 (o.getD i 0) := fun i hi => by
    rw [← filW_eq hh ho]
    unfold filR
    rw [tabN_getD (fun i => nzW (xs.getD i 0) (o.getD i 0)) hi 0]
    exact (nzW_pos (hh.nn hi).1 (ho.1.2.1 i hi)).1
  refine ⟨el, fun i hi he => by rw [e i hi]; exact ho.1.2.2.1 i hi he, fun i hi => by rw [e i hi]; exact ho.1.2.2.2.1 i hi, fun q hq i hi => by rw [e i hi]; exact ho.1.2.2.2.2 q hq i hi, fun i hi he k hk hO => ?_⟩
  have h1 := ho.2 i hi he k hk hO
  dsimp only at h1 ⊢
  rw [e i hi, e _ (nbC_lt hh hO).2.2]
  exact h1
theorem cel_of {W H : Int} {xs : List Nat} (hh : HillW W H xs) {i : Nat} (hi : i < xs.length) : Cel W H (i : Int) := by
  have := hill_len hh.1
  refine ⟨by omega, by omega, by omega⟩
theorem waL_at {W H : Int} {f : List Nat} (hf : HillW W H f) {i : Nat} (hi : i < f.length) : (waL W H f).getD i 0 = (flR W H f (i : Nat)).1 := by
  have := hill_len hf.1
  unfold waL
  exact tabN_getD (fun i => (flR W H f (i : Nat)).1) (show i < (W * H).toNat by omega) 0
section
variable {W H : Int} {xs : List Nat} (hx : HalfH W H xs) (hn : xs.length ≤ 100)
noncomputable def fW (W H : Int) (xs : List Nat) : List Nat := filW W H xs
noncomputable def sW (W H : Int) (xs : List Nat) : List Int := stW 256 W H (filW W H xs) (waL W H (filW W H xs))
include hx hn
/-- Each cell of a filled hill has a way out. -/
theorem no_stuck {i : Nat} (hi : i < xs.length) (hz : stZ W H (waL W H (filW W H xs)) i = false) : (sW W H xs).getD i 0 < 256 := by
  have hh := hx.1
  have hf := fil_half hx
  have K := filK hh
  have F := stW_fix (N := 256) (W := W) (H := H) (f := filW W H xs) (ds := waL W H (filW W H xs)) hf.1 (by omega)
  have hz0 : ∀ j, j < xs.length → stZ W H (waL W H (filW W H xs)) j = true → (sW W H xs).getD j 0 = 0 := fun j hj h => (F.1.2.1 j (by rw [K.len]; exact hj)).1 h
  have hle : ∀ j, j < xs.length → (sW W H xs).getD j 0 ≤ 256 := fun j hj => (F.1.2.1 j (by rw [K.len]; exact hj)).2.2.1
  apply Classical.byContradiction
  intro hno
  have e256 : (sW W H xs).getD i 0 = 256 := by have := hle i hi; omega
  have := K.top (fun j => if (sW W H xs).getD j 0 = 256 then P32 ((filW W H xs).getD j 0) + 1 else P32 ((filW W H xs).getD j 0)) ⟨fun j hj he => ?_, fun j hj he k hk hO => ?_⟩ i hi
  · try dsimp only at this
    rw [if_pos e256] at this
    omega
  · have : (sW W H xs).getD j 0 = 0 := hz0 j hj (by rw [stZ, he]; rfl)
    dsimp only
    rw [if_neg (by omega), K.edge j hj he]
    exact Int.le_refl _
  · have n1 := (nbC_lt hh hO).2.2
    have h1 := K.fix j hj he k hk hO
    dsimp only at h1 ⊢
    by_cases hU : (sW W H xs).getD j 0 = 256
    · rw [if_pos hU]
      have hZ : stZ W H (waL W H (filW W H xs)) j = false := by
        cases h : stZ W H (waL W H (filW W H xs)) j with
        | false => rfl
        | true => have := hz0 j hj h; omega
      have hd : (waL W H (filW W H xs)).getD j 0 < 0 := by
        rw [stZ, he, Bool.false_or, decide_eq_false_iff_not] at hZ
        omega
      have jl : j < (filW W H xs).length := by rw [K.len]; exact hj
      rw [waL_at hf.1 jl] at hd
      have low : P32 ((filW W H xs).getD j 0) ≤ P32 ((filW W H xs).getD (nbC W j k).toNat 0) := by
        rcases (fl_facts hf (cel_of hf.1 jl)).2 with ⟨_, g⟩ | ⟨k', _, hO', e', _⟩
        · have := g k hk hO
          rwa [Int.toNat_natCast] at this
        · have := (nbC_lt hh hO').1
          omega
      by_cases he2 : P32 ((filW W H xs).getD (nbC W j k).toNat 0) = P32 ((filW W H xs).getD j 0)
      · have hA : stA W H (filW W H xs) j k = true := by
          rw [stA_eq hO, eql_num (hf.1.nn (by rw [K.len]; exact n1)).1.1 (hf.1.nn jl).1.1]
          exact decide_eq_true he2
        have h2 := F.2 j jl k hk hA
        have h3 := hle _ n1
        have hs : (sW W H xs).getD (nbC W j k).toNat 0 = 256 := by
          apply Classical.byContradiction
          intro hne
          have h4 := st_small hf.1 F (i := (nbC W j k).toNat) (by rw [K.len]; exact n1) (by show (sW W H xs).getD _ 0 < 256; omega)
          have h5 : (sW W H xs).getD (nbC W j k).toNat 0 < ((filW W H xs).length : Int) := h4
          have h6 : (sW W H xs).getD j 0 ≤ (sW W H xs).getD (nbC W j k).toNat 0 + 1 := h2
          rw [K.len] at h5
          omega
        rw [if_pos hs]
        omega
      · have : P32 ((filW W H xs).getD j 0) + 1 ≤ (if (sW W H xs).getD (nbC W j k).toNat 0 = 256 then P32 ((filW W H xs).getD (nbC W j k).toNat 0) + 1 else P32 ((filW W H xs).getD (nbC W j k).toNat 0)) := by split <;> omega
        omega
    · rw [if_neg hU]
      have : P32 ((filW W H xs).getD (nbC W j k).toNat 0) ≤ (if (sW W H xs).getD (nbC W j k).toNat 0 = 256 then P32 ((filW W H xs).getD (nbC W j k).toNat 0) + 1 else P32 ((filW W H xs).getD (nbC W j k).toNat 0)) := by split <;> omega
      omega
end

end Go.Proofs.Ytngmlbeafdaolaa
