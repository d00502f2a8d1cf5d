/- What each function of this seat does (Run). Printed from templates of this seat's own. -/
import Derived.Test.YtngmlbeafdaolaaFil
namespace Go.Proofs.Ytngmlbeafdaolaa
open Go.Ax Go.Bx
set_option maxRecDepth 8000
set_option linter.unusedSimpArgs false
set_option linter.unusedVariables false
/-! How many steps it is from each cell to one that leads out. -/
def stZ (W H : Int) (ds : List Int) (i : Nat) : Bool := edB W H i || decide (ds.getD i 0 ≥ 0)
def stA (W H : Int) (f : List Nat) (i k : Nat) : Bool := nbOk W H i k && fcmp .eql .f32 (f.getD (nbC W i k).toNat 0) (f.getD i 0)
def siF (N : Int) (W H : Int) (ds : List Int) (i : Nat) : Int := bif stZ W H ds i then 0 else N
def stGood (N : Int) (W H : Int) (f : List Nat) (ds : List Int) (q : Nat → Int) : Prop := ∀ i, i < f.length → (stZ W H ds i = true → q i ≤ 0) ∧ q i ≤ N ∧ ∀ k, k < 8 → stA W H f i k = true → q i ≤ q (nbC W i k).toNat + 1
def stInv (N : Int) (W H : Int) (f : List Nat) (ds s : List Int) : Prop := s.length = f.length ∧ (∀ i, i < f.length → (stZ W H ds i = true → s.getD i 0 = 0) ∧ (stZ W H ds i = false → 1 ≤ s.getD i 0) ∧ s.getD i 0 ≤ N ∧ 0 ≤ s.getD i 0) ∧ (∀ i, i < f.length → stZ W H ds i = false → s.getD i 0 = N ∨ ∃ k, k < 8 ∧ stA W H f i k = true ∧ s.getD (nbC W i k).toNat 0 + 1 ≤ s.getD i 0) ∧ ∀ q : Nat → Int, stGood N W H f ds q → ∀ i, i < f.length → q i ≤ s.getD i 0
def stAt (W H : Int) (f : List Nat) (s : List Int) (i : Nat) : Prop := ∀ k, k < 8 → stA W H f i k = true → s.getD i 0 ≤ s.getD (nbC W i k).toNat 0 + 1
def stFix (N : Int) (W H : Int) (f : List Nat) (ds s : List Int) : Prop := stInv N W H f ds s ∧ ∀ i, i < f.length → stAt W H f s i
theorem stA_lt {W H : Int} {f : List Nat} (hh : HillW W H f) {i k : Nat} (h : stA W H f i k = true) : nbOk W H i k = true ∧ (nbC W i k).toNat < f.length := by
  unfold stA at h
  rw [Bool.and_eq_true] at h
  exact ⟨h.1, (nbC_lt hh h.1).2.2⟩
def swN (s : List Int) : Nat → Nat
  | 0 => 0
  | k + 1 => swN s k + (s.getD k 0).toNat
theorem swN_set {s : List Int} {i : Nat} {v : Int} (hi : i < s.length) (h0 : 0 ≤ v) (hv : v < s.getD i 0) : ∀ k, swN (s.set i v) k ≤ swN s k ∧ (i < k → swN (s.set i v) k < swN s k)
  | 0 => ⟨Nat.le_refl _, fun h => by omega⟩
  | k + 1 => by
    have ih := swN_set hi h0 hv k
    rw [swN, swN, getD_setG _ _ _ _ hi]
    by_cases e : k = i
    · rw [if_pos e]
      subst e
      exact ⟨by omega, fun _ => by omega⟩
    · rw [if_neg e]
      exact ⟨by omega, fun h => by have := ih.2 (by omega); omega⟩
def sw (s : List Int) : Nat := swN s s.length
theorem sw_le {o0 o : List Int} {ch : Bool} (h1 : ch = true → sw o < sw o0) (h2 : ch = false → o = o0) : sw o ≤ sw o0 := by
  cases ch
  · rw [h2 rfl]; exact Nat.le_refl _
  · exact Nat.le_of_lt (h1 rfl)
theorem st_upd {N W H : Int} {f : List Nat} {ds s : List Int} (hh : HillW W H f) (h : stInv N W H f ds s) {i k : Nat} (hi : i < f.length) (hk : k < 8) (hA : stA W H f i k = true) (hlt : s.getD (nbC W i k).toNat 0 + 1 < s.getD i 0) :
    stInv N W H f ds (s.set i (s.getD (nbC W i k).toNat 0 + 1)) ∧ sw (s.set i (s.getD (nbC W i k).toNat 0 + 1)) < sw s := by
  obtain ⟨g1, g2, g3, g4⟩ := h
  have hi' : i < s.length := by omega
  obtain ⟨_, hc⟩ := stA_lt hh hA
  have hne : (nbC W i k).toNat ≠ i := fun e => by rw [e] at hlt; omega
  have hk0 := (g2 _ hc).2.2.2
  have hZ : stZ W H ds i = false := by
    cases hz : stZ W H ds i with
    | false => rfl
    | true => have := (g2 i hi).1 hz; omega
  refine ⟨⟨by simp [g1], fun j hj => ?_, fun j hj hz => ?_, fun q hq j hj => ?_⟩, ?_⟩
  · rw [getD_setG _ _ _ _ hi']
    split
    · rename_i e
      subst e
      refine ⟨(fun hz => by rw [hZ] at hz; cases hz), fun _ => by omega, ?_, by omega⟩
      have := (g2 j hj).2.2.1
      omega
    · exact g2 j hj
  · by_cases e : j = i
    · subst e
      refine .inr ⟨k, hk, hA, ?_⟩
      rw [getD_setG _ _ _ _ hi', getD_setG _ _ _ _ hi', if_neg hne, if_pos rfl]
      exact Int.le_refl _
    · rw [getD_setG _ _ _ _ hi', if_neg e]
      rcases g3 j hj hz with h1 | ⟨k', h1, h2, h3⟩
      · exact .inl h1
      · refine .inr ⟨k', h1, h2, ?_⟩
        rw [getD_setG _ _ _ _ hi']
        split
        · rename_i e'
          rw [e'] at h3
          omega
        · exact h3
  · rw [getD_setG _ _ _ _ hi']
    split
    · rename_i e
      subst e
      have h1 := (hq j hj).2.2 k hk hA
      have h2 := g4 q hq _ hc
      omega
    · exact g4 q hq j hj
  · unfold sw
    rw [List.length_set]
    exact (swN_set hi' (by omega) hlt _).2 hi'
theorem st_init {N W H : Int} {f : List Nat} {ds : List Int} (hN : 1 ≤ N) : stInv N W H f ds (tabN (siF N W H ds) f.length) := by
  refine ⟨tabN_len _ _, fun i hi => ?_, fun i hi hz => ?_, fun q hq i hi => ?_⟩ <;> rw [tabN_getD _ hi]
  · unfold siF
    cases hz : stZ W H ds i
    · rw [cond_false]; exact ⟨(fun h => by cases h), fun _ => hN, Int.le_refl _, by omega⟩
    · rw [cond_true]; exact ⟨fun _ => rfl, fun h => (by cases h), by omega, Int.le_refl _⟩
  · unfold siF; rw [hz]; exact .inl rfl
  · unfold siF
    cases hz : stZ W H ds i
    · exact (hq i hi).2.1
    · exact (hq i hi).1 hz
theorem stFix_good {N W H : Int} {f : List Nat} {ds s : List Int} (h : stFix N W H f ds s) : stGood N W H f ds fun i => s.getD i 0 := fun i hi =>
  ⟨fun hz => by have := (h.1.2.1 i hi).1 hz; (try dsimp only); omega, (h.1.2.1 i hi).2.2.1, fun k hk hA => h.2 i hi k hk hA⟩
theorem stFix_eq {N W H : Int} {f : List Nat} {ds s s' : List Int} (h : stFix N W H f ds s) (h' : stFix N W H f ds s') : s = s' := by
  apply List.ext_getElem
  · rw [h.1.1, h'.1.1]
  · intro i h1 h2
    have hi : i < f.length := by have := h.1.1; omega
    have e1 := h.1.2.2.2 _ (stFix_good h') i hi
    have e2 := h'.1.2.2.2 _ (stFix_good h) i hi
    (try dsimp only at e1 e2)
    rw [List.getD_eq_getElem?_getD, List.getD_eq_getElem?_getD, List.getElem?_eq_getElem h1, List.getElem?_eq_getElem h2] at e1 e2
    simp only [Option.getD_some] at e1 e2
    omega
/-- The numbers of steps. -/
noncomputable def stW (N W H : Int) (f : List Nat) (ds : List Int) : List Int := Classical.epsilon fun s => stFix N W H f ds s
theorem stW_eq {N W H : Int} {f : List Nat} {ds s : List Int} (h : stFix N W H f ds s) : s = stW N W H f ds :=
  stFix_eq h (Classical.epsilon_spec (p := fun s => stFix N W H f ds s) ⟨s, h⟩)
theorem st_ex' {N W H : Int} {f : List Nat} {ds : List Int} (hh : HillW W H f) : ∀ (n : Nat) (s : List Int), stInv N W H f ds s → sw s ≤ n → ∃ s', stFix N W H f ds s' := by
  intro n
  induction n with
  | zero =>
    intro s h hw
    refine ⟨s, h, fun i hi k hk hA => ?_⟩
    apply Classical.byContradiction
    intro hno
    have := (st_upd hh h hi hk hA (by omega)).2
    omega
  | succ n ih =>
    intro s h hw
    by_cases hall : stFix N W H f ds s
    · exact ⟨s, hall⟩
    · have : ∃ i k, i < f.length ∧ k < 8 ∧ stA W H f i k = true ∧ ¬ s.getD i 0 ≤ s.getD (nbC W i k).toNat 0 + 1 := by
        apply Classical.byContradiction
        intro hno
        refine hall ⟨h, fun i hi k hk hA => ?_⟩
        apply Classical.byContradiction
        intro hno'
        exact hno ⟨i, k, hi, hk, hA, hno'⟩
      obtain ⟨i, k, hi, hk, hA, hno⟩ := this
      obtain ⟨u1, u2⟩ := st_upd hh h hi hk hA (by omega)
      exact ih _ u1 (by omega)
theorem stW_fix {N W H : Int} {f : List Nat} {ds : List Int} (hh : HillW W H f) (hN : 1 ≤ N) : stFix N W H f ds (stW N W H f ds) := by
  have := st_ex' hh _ _ (st_init (W := W) (H := H) (f := f) (ds := ds) hN) (Nat.le_refl _)
  exact Classical.epsilon_spec (p := fun s => stFix N W H f ds s) this
/-- Below the bound, a number of steps is less than the number of cells. -/
theorem st_small {N W H : Int} {f : List Nat} {ds s : List Int} (hh : HillW W H f) (h : stFix N W H f ds s) {i : Nat} (hi : i < f.length) (hlt : s.getD i 0 < N) : s.getD i 0 < f.length := by
  have down : ∀ (v : Nat) (i : Nat), i < f.length → s.getD i 0 = v → (v : Int) < N → ∀ j, j ≤ v → ∃ c, c < f.length ∧ s.getD c 0 = (j : Int) := by
    intro v
    induction v with
    | zero =>
      intro i hi e _ j hj
      have : j = 0 := by omega
      subst this
      exact ⟨i, hi, e⟩
    | succ v ih =>
      intro i hi e hlt j hj
      rcases Nat.lt_or_eq_of_le hj with h' | h'
      · have hz : stZ W H ds i = false := by
          cases hz : stZ W H ds i with
          | false => rfl
          | true => have := (h.1.2.1 i hi).1 hz; omega
        rcases h.1.2.2.1 i hi hz with e' | ⟨k, hk, hA, hle⟩
        · omega
        · have h1 := h.2 i hi k hk hA
          exact ih _ (stA_lt hh hA).2 (by omega) (by omega) j (by omega)
      · subst h'; exact ⟨i, hi, e⟩
  have h0 := (h.1.2.1 i hi).2.2.2
  have hd := down (s.getD i 0).toNat i hi (by omega) (by omega)
  have : (s.getD i 0).toNat + 1 ≤ f.length := by
    let g : Nat → Nat := fun j => if hj : j ≤ (s.getD i 0).toNat then Classical.choose (hd j hj) else 0
    have hg : ∀ j, j ≤ (s.getD i 0).toNat → g j < f.length ∧ s.getD (g j) 0 = (j : Int) := fun j hj => by
      have := Classical.choose_spec (hd j hj)
      show (if hj : j ≤ (s.getD i 0).toNat then Classical.choose (hd j hj) else 0) < f.length ∧ s.getD (if hj : j ≤ (s.getD i 0).toNat then Classical.choose (hd j hj) else 0) 0 = (j : Int)
      rw [dif_pos hj]; exact this
    refine pig f.length ((s.getD i 0).toNat + 1) g (fun j hj => (hg j (by omega)).1) (fun a b ha hb e => ?_)
    have h1 := (hg a (by omega)).2
    have h2 := (hg b (by omega)).2
    rw [e] at h1
    omega
  omega
theorem st_min {N W H : Int} {f : List Nat} {ds s s' : List Int} (h : stFix N W H f ds s) (h' : stFix 256 W H f ds s') (hN : N ≤ 256) (h1 : 1 ≤ N) {i : Nat} (hi : i < f.length) (hh : HillW W H f) : s.getD i 0 = min (s'.getD i 0) N := by
  have g1 : stGood 256 W H f ds fun i => s.getD i 0 := fun j hj => by
    have := stFix_good h j hj
    exact ⟨this.1, by have := this.2.1; (try dsimp only at *); omega, this.2.2⟩
  have g2 : stGood N W H f ds fun i => min (s'.getD i 0) N := fun j hj => by
    have g := stFix_good h' j hj
    refine ⟨fun hz => ?_, ?_, fun k hk hA => ?_⟩
    · have := g.1 hz; (try dsimp only at *); omega
    · (try dsimp only); omega
    · have := g.2.2 k hk hA; (try dsimp only at *); omega
  have e1 := h'.1.2.2.2 _ g1 i hi
  have e2 := h.1.2.2.2 _ g2 i hi
  have e3 := (h.1.2.1 i hi).2.2.1
  (try dsimp only at e1 e2)
  omega
theorem st_order {N W H : Int} {f : List Nat} {ds s s' : List Int} (hh : HillW W H f) (h : stFix N W H f ds s) (h' : stFix 256 W H f ds s') (hNf : N = f.length) (hN : N ≤ 256) {a b : Nat} (ha : a < f.length) (hb : b < f.length) : s.getD a 0 < s.getD b 0 ↔ s'.getD a 0 < s'.getD b 0 := by
  have h1 : 1 ≤ N := by omega
  rw [st_min h h' hN h1 ha hh, st_min h h' hN h1 hb hh]
  have u1 : s'.getD a 0 < N ∨ s'.getD a 0 = 256 := by
    rcases Int.lt_or_le (s'.getD a 0) 256 with e | e
    · left; have := st_small hh h' ha e; omega
    · right; have := (h'.1.2.1 a ha).2.2.1; omega
  have u2 : s'.getD b 0 < N ∨ s'.getD b 0 = 256 := by
    rcases Int.lt_or_le (s'.getD b 0) 256 with e | e
    · left; have := st_small hh h' hb e; omega
    · right; have := (h'.1.2.1 b hb).2.2.1; omega
  omega
/-! The nearest of the cells beside that are as high. -/
def bwF (f : List Nat) (s : List Int) (i : Nat) (best : Int) (r : Int × Nat) : Int := bif fcmp .eql .f32 (f.getD r.1.toNat 0) (f.getD i 0) && (decide (best < 0) || decide (s.getD r.1.toNat 0 < s.getD best.toNat 0)) then r.1 else best
def bwS (W H : Int) (f : List Nat) (s : List Int) (i : Nat) (k : Nat) : Int := (nbL W H i k).foldl (bwF f s i) (-1)
noncomputable def bwR (W H : Int) (f : List Nat) (s : List Int) (i : Nat) : Int := hid (bwS W H f s i 8)
theorem bwS_no {W H : Int} {f : List Nat} {s : List Int} {i k : Nat} (h : nbOk W H i k = false) : bwS W H f s i k = bwS W H f s i (k + 1) := by
  unfold bwS; rw [← nbL_no h]
theorem bwS_yes {W H : Int} {f : List Nat} {s : List Int} {i k : Nat} (h : nbOk W H i k = true) : bwF f s i (bwS W H f s i k) (nbC W i k, farK k) = bwS W H f s i (k + 1) := by
  unfold bwS; rw [← nbL_yes h, List.foldl_append]; rfl
theorem bwF_range {W H : Int} {f : List Nat} {s : List Int} (hh : HillW W H f) {i : Nat} {b : Int} {r : Int × Nat} (hb : -1 ≤ b ∧ b < f.length) (hr : r ∈ nbL W H i 8) : -1 ≤ bwF f s i b r ∧ bwF f s i b r < f.length := by
  obtain ⟨k, hk, hO, e⟩ := nbL_ex hr
  have := nbC_lt hh hO
  unfold bwF
  cases fcmp .eql .f32 (f.getD r.1.toNat 0) (f.getD i 0) && (decide (b < 0) || decide (s.getD r.1.toNat 0 < s.getD b.toNat 0))
  · exact hb
  · rw [cond_true, e]; omega
theorem fo_range {W H : Int} {f : List Nat} {s : List Int} (hh : HillW W H f) {i : Nat} {l : List (Int × Nat)} (hl : ∀ r ∈ l, r ∈ nbL W H i 8) : ∀ b : Int, -1 ≤ b ∧ b < f.length → -1 ≤ l.foldl (bwF f s i) b ∧ l.foldl (bwF f s i) b < f.length := by
  induction l with
  | nil => intro b hb; exact hb
  | cons r l ih =>
    intro b hb
    rw [List.foldl_cons]
    exact ih (fun r hr => hl r (List.mem_cons_of_mem _ hr)) _ (bwF_range hh hb (hl r (List.mem_cons_self ..)))
theorem nbL_sub {W H c : Int} {k : Nat} {r : Int × Nat} (h : r ∈ nbL W H c k) : ∀ n, r ∈ nbL W H c (k + n)
  | 0 => h
  | n + 1 => List.mem_append.2 (.inl (nbL_sub h n))
theorem bwS_range {W H : Int} {f : List Nat} {s : List Int} (hh : HillW W H f) {i k : Nat} (hk : k ≤ 8) : -1 ≤ bwS W H f s i k ∧ bwS W H f s i k < f.length :=
  fo_range hh (fun r hr => by have := nbL_sub hr (8 - k); rwa [show k + (8 - k) = 8 by omega] at this) (-1) (by omega)
theorem fold_eq {W H : Int} {f : List Nat} {s s' : List Int} (hh : HillW W H f) {i : Nat} (ho : ∀ a b, a < f.length → b < f.length → (s.getD a 0 < s.getD b 0 ↔ s'.getD a 0 < s'.getD b 0)) {l : List (Int × Nat)} (hl : ∀ r ∈ l, r ∈ nbL W H i 8) : ∀ b : Int, -1 ≤ b ∧ b < f.length → l.foldl (bwF f s i) b = l.foldl (bwF f s' i) b := by
  induction l with
  | nil => intro b hb; rfl
  | cons r l ih =>
    intro b hb
    have hr := hl r (List.mem_cons_self ..)
    have e : bwF f s i b r = bwF f s' i b r := by
      obtain ⟨k, hk, hO, e⟩ := nbL_ex hr
      have hc := nbC_lt hh hO
      unfold bwF
      by_cases h0 : b < 0
      · rw [decide_eq_true h0, Bool.true_or, Bool.true_or]
      · have := ho r.1.toNat b.toNat (by rw [e]; exact hc.2.2) (by omega)
        rw [decide_eq_decide.2 this]
    rw [List.foldl_cons, List.foldl_cons, e]
    exact ih (fun r hr => hl r (List.mem_cons_of_mem _ hr)) _ (bwF_range hh hb hr)
theorem bwR_eq {W H : Int} {f : List Nat} {ds : List Int} (hh : HillW W H f) {i : Nat} : bwR W H f (stW (W * H) W H f ds) i = bwR W H f (stW 256 W H f ds) i := by
  obtain ⟨k1, k2, k3, k4, k5, k6, k7⟩ := hill_len hh.1
  unfold bwR bwS
  rw [hid_eq, hid_eq]
  exact fold_eq hh (fun a b ha hb => st_order hh (stW_fix hh (by omega)) (stW_fix hh (by omega)) k5.symm k7 ha hb) (fun r hr => hr) (-1) (by omega)
noncomputable def rwF (N W H : Int) (f : List Nat) (ds : List Int) (i : Nat) : Int := bif stZ W H ds i then ds.getD i 0 else bwR W H f (stW N W H f ds) i
noncomputable def rwL (N W H : Int) (f : List Nat) (ds : List Int) : List Int := tabN (rwF N W H f ds) ds.length
theorem rwL_eq {W H : Int} {f : List Nat} {ds : List Int} (hh : HillW W H f) : rwL (W * H) W H f ds = rwL 256 W H f ds := by
  unfold rwL
  refine tabN_congr fun i hi => ?_
  unfold rwF
  rw [bwR_eq hh]
noncomputable def rwB (W H : Int) (xs : List Nat) : Bool := hillB W H xs && waC W H (filW W H xs)
noncomputable def rwO (W H : Int) (xs : List Nat) : List Int := bif rwB W H xs then rwL 256 W H (filW W H xs) (waL W H (filW W H xs)) else []
theorem rwO_len (W H : Int) (xs : List Nat) : (rwO W H xs).length ≤ 256 := by
  unfold rwO
  cases h : rwB W H xs
  · exact Nat.zero_le _
  · simp only [rwB, Bool.and_eq_true] at h
    have := hill_len h.1
    rw [cond_true, rwL, tabN_len, waL, tabN_len]; omega
theorem stA_no {W H : Int} {f : List Nat} {i k : Nat} (h : nbOk W H i k = false) : stA W H f i k = false := by rw [stA, h]; rfl
theorem stA_eq {W H : Int} {f : List Nat} {i k : Nat} (h : nbOk W H i k = true) : stA W H f i k = fcmp .eql .f32 (f.getD (nbC W i k).toNat 0) (f.getD i 0) := by rw [stA, h, Bool.true_and]

set_option maxHeartbeats 4000000 in
theorem sSteps {W H : Int} {f : List Nat} {ds : List Int} {t t' t2 : AV} (hh : HillW W H f) (hd : ds.length = f.length) : Does Try.prog 70 [.ref [.int .i64 W, .int .i64 H, .sli .f32 f t] t', .sli (.int .i64) ds t2] (.own 0 (.int .i64) (stW (W * H) W H f ds)) := by
  obtain ⟨k1, k2, k3, k4, k5, k6, k7⟩ := hill_len hh.1
  refine Does.of_awp (X := cx 109) Try.func70 rfl (by kernel_rfl) rfl (by simp [cx]) [84] rfl ?_
  conv => whnf
  repeat (first
    | (refine ⟨⟨by kernel_rfl, by kernel_rfl⟩, ?_⟩; conv => whnf)
    | (refine And.intro (by first | omega | (simp; done) | (simp; omega)) ?_; conv => whnf)
    | (refine Or.inl (And.intro (by omega) ?_); conv => whnf))
  refine ⟨Nat, fun i => i ≤ f.length, fun i => [(0, .ref [.int .i64 W, .int .i64 H, .sli .f32 f t] t'), (1, .sli (.int .i64) ds t2), (5, .int .i64 (W * H)), (6, .osl 84), (7, .int .i64 i)], fun i => [(84, .tab (.int .i64) (tabN (siF (W * H) W H ds) i))], fun i => f.length - i, ⟨0, id, Nat.zero_le _, rfl, ⟨rfl, rfl, rfl, rfl, rfl, trivial⟩, ⟨rfl, trivial⟩⟩, fun i hi => ?_⟩
  dsimp only at hi
  have htl := tabN_len (siF (W * H) W H ds) i
  conv => whnf
  (refine br_intro (fun h => ?_) (fun h => ?_) <;> (conv => whnf))
  · have h : i < f.length := by simp at h; omega
    have hC : Cel W H i := ⟨⟨k1, k2, k3, k4⟩, by omega, by omega⟩
    repeat (first
      | (refine ⟨⟨by kernel_rfl, by kernel_rfl⟩, ?_⟩; conv => whnf)
      | (refine And.intro (by first | omega | (simp; done) | (simp; omega)) ?_; conv => whnf)
      | (refine Or.inl (And.intro (by omega) ?_); conv => whnf)
      | (refine Exists.intro _ (And.intro (sEdge hC) ?_); conv => whnf))
    (refine br_intro (fun h2 => ?_) (fun h2 => ?_) <;> (conv => whnf))
    · have h2 : edB W H i = true := h2
      have e : (0 : Int) = siF (W * H) W H ds i := by rw [siF, stZ, h2]; rfl
      repeat (first
        | (refine ⟨⟨by kernel_rfl, by kernel_rfl⟩, ?_⟩; conv => whnf)
        | (refine And.intro (by first | omega | (simp; done) | (simp; omega)) ?_; conv => whnf)
        | (refine Or.inl (And.intro (by omega) ?_); conv => whnf))
      refine ⟨i + 1, ren [(84, 156)], ⟨h, by dsimp only; omega⟩, rfl, ⟨rfl, rfl, rfl, rfl, rfl, trivial⟩, ⟨congrArg (fun x => KS.live (Blk.tab (.int .i64) (tabN (siF (W * H) W H ds) i ++ [x]))) e, trivial⟩⟩
    · have h2 : edB W H i = false := h2
      repeat (first
        | (refine ⟨⟨by kernel_rfl, by kernel_rfl⟩, ?_⟩; conv => whnf)
        | (refine And.intro (by first | omega | (simp; done) | (simp; omega)) ?_; conv => whnf)
        | (refine Or.inl (And.intro (by omega) ?_); conv => whnf))
      (refine br_intro (fun h3 => ?_) (fun h3 => ?_) <;> (conv => whnf))
      · have h3 : decide (ds.getD i 0 ≥ 0) = true := h3
        have e : (0 : Int) = siF (W * H) W H ds i := by rw [siF, stZ, h2, h3]; rfl
        repeat (first
          | (refine ⟨⟨by kernel_rfl, by kernel_rfl⟩, ?_⟩; conv => whnf)
          | (refine And.intro (by first | omega | (simp; done) | (simp; omega)) ?_; conv => whnf)
          | (refine Or.inl (And.intro (by omega) ?_); conv => whnf))
        refine ⟨i + 1, ren [(84, 156)], ⟨h, by dsimp only; omega⟩, rfl, ⟨rfl, rfl, rfl, rfl, rfl, trivial⟩, ⟨congrArg (fun x => KS.live (Blk.tab (.int .i64) (tabN (siF (W * H) W H ds) i ++ [x]))) e, trivial⟩⟩
      · have h3 : decide (ds.getD i 0 ≥ 0) = false := h3
        have e : W * H = siF (W * H) W H ds i := by rw [siF, stZ, h2, h3]; rfl
        repeat (first
          | (refine ⟨⟨by kernel_rfl, by kernel_rfl⟩, ?_⟩; conv => whnf)
          | (refine And.intro (by first | omega | (simp; done) | (simp; omega)) ?_; conv => whnf)
          | (refine Or.inl (And.intro (by omega) ?_); conv => whnf))
        refine ⟨i + 1, ren [(84, 172)], ⟨h, by dsimp only; omega⟩, rfl, ⟨rfl, rfl, rfl, rfl, rfl, trivial⟩, ⟨congrArg (fun x => KS.live (Blk.tab (.int .i64) (tabN (siF (W * H) W H ds) i ++ [x]))) e, trivial⟩⟩
  have h : i = f.length := by simp at h; omega
  subst h
  have hI0 : stInv (W * H) W H f ds (tabN (siF (W * H) W H ds) f.length) := st_init k6
  repeat (first
    | (refine ⟨⟨by kernel_rfl, by kernel_rfl⟩, ?_⟩; conv => whnf)
    | (refine And.intro (by first | omega | (simp; done) | (simp; omega)) ?_; conv => whnf)
    | (refine Or.inl (And.intro (by omega) ?_); conv => whnf))
  refine ⟨List Int × Bool, fun p => stInv (W * H) W H f ds p.1 ∧ (p.2 = false → stFix (W * H) W H f ds p.1), fun p => [(0, .ref [.int .i64 W, .int .i64 H, .sli .f32 f t] t'), (5, .int .i64 (W * H)), (6, .osl 84), (8, .bool p.2)], fun p => [(84, .tab (.int .i64) p.1)], fun p => 2 * sw p.1 + (bif p.2 then 1 else 0), ⟨(tabN (siF (W * H) W H ds) f.length, true), id, ⟨hI0, fun e => by cases e⟩, rfl, ⟨rfl, rfl, rfl, rfl, trivial⟩, ⟨rfl, trivial⟩⟩, fun p hp => ?_⟩
  obtain ⟨o0, c0⟩ := p
  obtain ⟨hI, hF⟩ := hp
  dsimp only at hI hF
  clear hI0 htl
  conv => whnf
  (refine br_intro (fun hc => ?_) (fun hc => ?_) <;> (conv => whnf))
  · have hc : c0 = true := hc
    subst hc
    repeat (first
      | (refine ⟨⟨by kernel_rfl, by kernel_rfl⟩, ?_⟩; conv => whnf)
      | (refine And.intro (by first | omega | (simp; done) | (simp; omega)) ?_; conv => whnf)
      | (refine Or.inl (And.intro (by omega) ?_); conv => whnf))
    refine ⟨List Int × Bool × Nat, fun q => stInv (W * H) W H f ds q.1 ∧ q.2.2 ≤ f.length ∧ (q.2.1 = true → sw q.1 < sw o0) ∧ (q.2.1 = false → q.1 = o0 ∧ ∀ j : Nat, j < q.2.2 → stAt W H f o0 j), fun q => [(0, .ref [.int .i64 W, .int .i64 H, .sli .f32 f t] t'), (5, .int .i64 (W * H)), (6, .osl 84), (8, .bool q.2.1), (9, .int .i64 q.2.2)], fun q => [(84, .tab (.int .i64) q.1)], fun q => f.length - q.2.2, ⟨(o0, false, 0), id, ⟨hI, Nat.zero_le _, (fun e => by cases e), fun _ => ⟨rfl, fun j hj => by dsimp only at hj; omega⟩⟩, rfl, ⟨rfl, rfl, rfl, rfl, rfl, trivial⟩, ⟨rfl, trivial⟩⟩, fun q hq => ?_⟩
    obtain ⟨o, ch, i⟩ := q
    obtain ⟨hJ, hi, hw1, hw2⟩ := hq
    dsimp only at hJ hi hw1 hw2
    conv => whnf
    (refine br_intro (fun h => ?_) (fun h => ?_) <;> (conv => whnf))
    · have h : i < f.length := by simp at h; omega
      have hC : Cel W H i := ⟨⟨k1, k2, k3, k4⟩, by omega, by omega⟩
      repeat (first
        | (refine ⟨⟨by kernel_rfl, by kernel_rfl⟩, ?_⟩; conv => whnf)
        | (refine And.intro (by first | omega | (simp; done) | (simp; omega)) ?_; conv => whnf)
        | (refine Or.inl (And.intro (by omega) ?_); conv => whnf)
        | (refine Exists.intro _ (And.intro (sNear hC) ?_); conv => whnf))
      refine ⟨List Int × Bool × Nat, fun q => stInv (W * H) W H f ds q.1 ∧ q.2.2 ≤ 8 ∧ (q.2.1 = true → sw q.1 < sw o0) ∧ (q.2.1 = false → q.1 = o0 ∧ (∀ j : Nat, j < i → stAt W H f o0 j) ∧ ∀ k, k < q.2.2 → stA W H f i k = true → o0.getD i 0 ≤ o0.getD (nbC W i k).toNat 0 + 1), fun q => [(0, .ref [.int .i64 W, .int .i64 H, .sli .f32 f t] t'), (5, .int .i64 (W * H)), (6, .osl 84), (8, .bool q.2.1), (9, .int .i64 i), (10, .osl 208), (11, .int .i64 q.2.2)], fun q => [(84, .tab (.int .i64) q.1), (208, .tab (.int .i64) (nearL W H i))], fun q => 8 - q.2.2, ⟨(o, ch, 0), id, ⟨hJ, Nat.zero_le _, hw1, fun e => ⟨(hw2 e).1, (hw2 e).2, fun k hk => by dsimp only at hk; omega⟩⟩, rfl, ⟨rfl, rfl, rfl, rfl, rfl, rfl, rfl, trivial⟩, ⟨rfl, rfl, trivial⟩⟩, fun q hq => ?_⟩
      clear hJ hw1 hw2
      obtain ⟨o, ch, k⟩ := q
      obtain ⟨hJ, hk, hw1, hw2⟩ := hq
      dsimp only at hJ hk hw1 hw2
      have hol := hJ.1
      conv => whnf
      (refine br_intro (fun h2 => ?_) (fun h2 => ?_) <;> (conv => whnf))
      · have h2 : k < 8 := by simp at h2; omega
        have hlN : (nearL W H i).length = 8 := tabN_len _ _
        have hg : (nearL W H i).getD k 0 = nbAt W H i k := nearL_getD h2
        have hg2 := hg
        simp at hg2
        have next : stA W H f i k = false ∨ (o.getD i 0 ≤ o.getD (nbC W i k).toNat 0 + 1) → (ch = false → o = o0 ∧ (∀ j : Nat, j < i → stAt W H f o0 j) ∧ ∀ k', k' < k + 1 → stA W H f i k' = true → o0.getD i 0 ≤ o0.getD (nbC W i k').toNat 0 + 1) := fun hor e => by
          obtain ⟨e1, e2, e3⟩ := hw2 e
          refine ⟨e1, e2, fun k' hk' hA => ?_⟩
          rcases Nat.lt_or_eq_of_le (show k' ≤ k from Nat.le_of_lt_succ hk') with h' | h'
          · exact e3 k' h' hA
          · subst h'
            rcases hor with hor | hor
            · rw [hor] at hA; cases hA
            · rw [← e1]; exact hor
        cases hO : nbOk W H i k with
        | false =>
          have hg' := hg
          rw [nbAt_neg hO] at hg'
          rw [nbAt_neg hO] at hg2
          repeat (first
            | (refine ⟨⟨by kernel_rfl, by kernel_rfl⟩, ?_⟩; conv => whnf)
            | (refine And.intro (by first | omega | (simp; done) | (simp; omega)) ?_; conv => whnf)
            | (refine Or.inl (And.intro (by omega) ?_); conv => whnf))
          (refine br_intro (fun h3 => ?_) (fun h3 => ?_) <;> (conv => whnf))
          · exfalso
            have h3 : decide ((nearL W H i).getD k 0 ≥ 0) = true := h3
            rw [hg'] at h3; simp at h3
          · repeat (first
              | (refine ⟨⟨by kernel_rfl, by kernel_rfl⟩, ?_⟩; conv => whnf)
              | (refine And.intro (by first | omega | (simp; done) | (simp; omega)) ?_; conv => whnf)
              | (refine Or.inl (And.intro (by omega) ?_); conv => whnf)
              | (refine br_intro (fun h => by exfalso; first | (simp at h; done) | (simp at h; omega) | omega) (fun _ => ?_); conv => whnf)
              | (refine br_intro (fun _ => ?_) (fun h => by exfalso; first | (simp at h; done) | (simp at h; omega) | omega); conv => whnf))
            refine ⟨(o, ch, k + 1), id, ⟨⟨hJ, h2, hw1, next (.inl (stA_no hO))⟩, by dsimp only; omega⟩, rfl, ⟨rfl, rfl, rfl, rfl, rfl, rfl, rfl, trivial⟩, ⟨rfl, rfl, trivial⟩⟩
        | true =>
          obtain ⟨r1, r2, r3⟩ := nbC_lt hh hO
          have hg' := hg
          rw [nbAt_pos hO] at hg'
          rw [nbAt_pos hO] at hg2
          have hb1 := (hJ.2.1 _ r3).2.2
          have hb2 := (hJ.2.1 i h).2.2
          have hb3 := hb1
          rw [← hg'] at hb3
          have hb4 := hb3
          simp at hb4
          have r4 := r2
          rw [← hg'] at r4
          have r5 := r4
          simp at r5
          repeat (first
            | (refine ⟨⟨by kernel_rfl, by kernel_rfl⟩, ?_⟩; conv => whnf)
            | (refine And.intro (by first | omega | (simp; done) | (simp; omega)) ?_; conv => whnf)
            | (refine Or.inl (And.intro (by omega) ?_); conv => whnf))
          (refine br_intro (fun h3 => ?_) (fun h3 => ?_) <;> (conv => whnf))
          · repeat (first
              | (refine ⟨⟨by kernel_rfl, by kernel_rfl⟩, ?_⟩; conv => whnf)
              | (refine And.intro (by first | omega | (simp; done) | (simp; omega)) ?_; conv => whnf)
              | (refine Or.inl (And.intro (by omega) ?_); conv => whnf))
            (refine br_intro (fun h4 => ?_) (fun h4 => ?_) <;> (conv => whnf))
            · have h4 : fcmp .eql .f32 (f.getD ((nearL W H i).getD k 0).toNat 0) (f.getD i 0) = true := h4
              rw [hg'] at h4
              have hA : stA W H f i k = true := by rw [stA_eq hO]; exact h4
              repeat (first
                | (refine ⟨⟨by kernel_rfl, by kernel_rfl⟩, ?_⟩; conv => whnf)
                | (refine And.intro (by first | omega | (simp; done) | (simp; omega)) ?_; conv => whnf)
                | (refine Or.inl (And.intro (by omega) ?_); conv => whnf))
              (refine br_intro (fun h5 => ?_) (fun h5 => ?_) <;> (conv => whnf))
              · have h5 : decide (o.getD ((nearL W H i).getD k 0).toNat 0 + 1 < o.getD i 0) = true := h5
                have hV : o.getD ((nearL W H i).getD k 0).toNat 0 + 1 = o.getD (nbC W i k).toNat 0 + 1 := by rw [hg']
                rw [hV] at h5
                have h5 := of_decide_eq_true h5
                obtain ⟨u1, u2⟩ := st_upd hh hJ h h2 hA h5
                have hwo := sw_le hw1 fun e => (hw2 e).1
                repeat (first
                  | (refine ⟨⟨by kernel_rfl, by kernel_rfl⟩, ?_⟩; conv => whnf)
                  | (refine And.intro (by first | omega | (simp; done) | (simp; omega)) ?_; conv => whnf)
                  | (refine Or.inl (And.intro (by omega) ?_); conv => whnf))
                refine ⟨(o.set i (o.getD (nbC W i k).toNat 0 + 1), true, k + 1), id, ⟨⟨u1, h2, fun _ => Nat.lt_of_lt_of_le u2 hwo, fun e => by cases e⟩, by dsimp only; omega⟩, rfl, ⟨rfl, rfl, rfl, rfl, rfl, rfl, rfl, trivial⟩, ⟨congrArg (fun x => KS.live (Blk.tab (.int .i64) (o.set i x))) hV, rfl, trivial⟩⟩
              · have h5 : decide (o.getD ((nearL W H i).getD k 0).toNat 0 + 1 < o.getD i 0) = false := h5
                rw [hg'] at h5
                have h5 := of_decide_eq_false h5
                repeat (first
                  | (refine ⟨⟨by kernel_rfl, by kernel_rfl⟩, ?_⟩; conv => whnf)
                  | (refine And.intro (by first | omega | (simp; done) | (simp; omega)) ?_; conv => whnf)
                  | (refine Or.inl (And.intro (by omega) ?_); conv => whnf)
                  | (refine br_intro (fun h => by exfalso; first | (simp at h; done) | (simp at h; omega) | omega) (fun _ => ?_); conv => whnf)
                  | (refine br_intro (fun _ => ?_) (fun h => by exfalso; first | (simp at h; done) | (simp at h; omega) | omega); conv => whnf))
                refine ⟨(o, ch, k + 1), id, ⟨⟨hJ, h2, hw1, next (.inr (by omega))⟩, by dsimp only; omega⟩, rfl, ⟨rfl, rfl, rfl, rfl, rfl, rfl, rfl, trivial⟩, ⟨rfl, rfl, trivial⟩⟩
            · have h4 : fcmp .eql .f32 (f.getD ((nearL W H i).getD k 0).toNat 0) (f.getD i 0) = false := h4
              rw [hg'] at h4
              repeat (first
                | (refine ⟨⟨by kernel_rfl, by kernel_rfl⟩, ?_⟩; conv => whnf)
                | (refine And.intro (by first | omega | (simp; done) | (simp; omega)) ?_; conv => whnf)
                | (refine Or.inl (And.intro (by omega) ?_); conv => whnf)
                | (refine br_intro (fun h => by exfalso; first | (simp at h; done) | (simp at h; omega) | omega) (fun _ => ?_); conv => whnf)
                | (refine br_intro (fun _ => ?_) (fun h => by exfalso; first | (simp at h; done) | (simp at h; omega) | omega); conv => whnf))
              refine ⟨(o, ch, k + 1), id, ⟨⟨hJ, h2, hw1, next (.inl (by rw [stA_eq hO]; exact h4))⟩, by dsimp only; omega⟩, rfl, ⟨rfl, rfl, rfl, rfl, rfl, rfl, rfl, trivial⟩, ⟨rfl, rfl, trivial⟩⟩
          · exfalso
            have h3 : decide ((nearL W H i).getD k 0 ≥ 0) = false := h3
            rw [hg'] at h3; simp at h3; omega
      · have h2 : k = 8 := by simp at h2; omega
        subst h2
        repeat (first
          | (refine ⟨⟨by kernel_rfl, by kernel_rfl⟩, ?_⟩; conv => whnf)
          | (refine And.intro (by first | omega | (simp; done) | (simp; omega)) ?_; conv => whnf)
          | (refine Or.inl (And.intro (by omega) ?_); conv => whnf))
        refine ⟨(o, ch, i + 1), id, ⟨⟨hJ, h, hw1, fun e => ⟨(hw2 e).1, fun j hj => ?_⟩⟩, by dsimp only; omega⟩, rfl, ⟨rfl, rfl, rfl, rfl, rfl, trivial⟩, ⟨rfl, trivial⟩⟩
        rcases Nat.lt_or_eq_of_le (show j ≤ i from Nat.le_of_lt_succ hj) with h' | h'
        · exact (hw2 e).2.1 j h'
        · subst h'; exact fun k hk hA => (hw2 e).2.2 k hk hA
    · have h : i = f.length := by simp at h; omega
      subst h
      repeat (first
        | (refine ⟨⟨by kernel_rfl, by kernel_rfl⟩, ?_⟩; conv => whnf)
        | (refine And.intro (by first | omega | (simp; done) | (simp; omega)) ?_; conv => whnf)
        | (refine Or.inl (And.intro (by omega) ?_); conv => whnf))
      refine ⟨(o, ch), id, ⟨⟨hJ, fun e => ⟨hJ, fun j hj => ?_⟩⟩, ?_⟩, rfl, ⟨rfl, rfl, rfl, rfl, trivial⟩, ⟨rfl, trivial⟩⟩
      · have := (hw2 e).2 j hj
        rw [(hw2 e).1]; exact this
      · dsimp only
        cases ch
        · rw [(hw2 rfl).1, cond_true, cond_false]; omega
        · have := hw1 rfl
          rw [cond_true]; omega
  have hc : c0 = false := hc
  subst hc
  rw [← stW_eq (hF rfl)]

theorem wrG {ds : List Int} {F : Nat → Int} {i : Nat} (h : i ≤ ds.length) : (wrN ds F i).getD i 0 = ds.getD i 0 := by
  rw [wrN_getD _ _ _ h, if_neg (by omega)]
theorem rwF_Z {N W H : Int} {f : List Nat} {ds : List Int} {i : Nat} (h : stZ W H ds i = true) : rwF N W H f ds i = ds.getD i 0 := by rw [rwF, h, cond_true]
theorem rwF_no {N W H : Int} {f : List Nat} {ds : List Int} {i : Nat} (h : stZ W H ds i = false) : rwF N W H f ds i = bwS W H f (stW N W H f ds) i 8 := by rw [rwF, h, cond_false, bwR, hid_eq]
theorem bwF_ne {f : List Nat} {s : List Int} {i : Nat} {b : Int} {r : Int × Nat} (h : fcmp .eql .f32 (f.getD r.1.toNat 0) (f.getD i 0) = false) : bwF f s i b r = b := by rw [bwF, h]; rfl
theorem bwF_neg {f : List Nat} {s : List Int} {i : Nat} {b : Int} {r : Int × Nat} (h : fcmp .eql .f32 (f.getD r.1.toNat 0) (f.getD i 0) = true) (h2 : b < 0) : bwF f s i b r = r.1 := by rw [bwF, h, decide_eq_true h2]; rfl
theorem bwF_lt {f : List Nat} {s : List Int} {i : Nat} {b : Int} {r : Int × Nat} (h : fcmp .eql .f32 (f.getD r.1.toNat 0) (f.getD i 0) = true) (h2 : s.getD r.1.toNat 0 < s.getD b.toNat 0) : bwF f s i b r = r.1 := by rw [bwF, h, decide_eq_true h2, Bool.or_true]; rfl
theorem bwF_ge {f : List Nat} {s : List Int} {i : Nat} {b : Int} {r : Int × Nat} (h1 : ¬ b < 0) (h2 : ¬ s.getD r.1.toNat 0 < s.getD b.toNat 0) : bwF f s i b r = b := by rw [bwF, decide_eq_false h1, decide_eq_false h2, Bool.or_false, Bool.and_false]; rfl

set_option maxHeartbeats 4000000 in
theorem sRun {W H : Int} {xs : List Nat} {t t' : AV} (hh : HillW W H xs) : Does Try.prog 38 [.ref [.int .i64 W, .int .i64 H, .sli .f32 xs t] t'] (.tup [.own 0 (.int .i64) (rwO W H xs), .bool (rwB W H xs)]) := by
  obtain ⟨k1, k2, k3, k4, k5, k6, k7⟩ := hill_len hh.1
  obtain ⟨w1, w2⟩ := filW_ok hh
  have eD : ∀ t t', Does Try.prog 69 [.ref [.int .i64 W, .int .i64 H, .sli .f32 (filW W H xs) t] t'] (.tup [.own 0 (.int .i64) (waO W H (filW W H xs)), .bool (waC W H (filW W H xs))]) := fun t t' => sDown w1.1
  have eB : rwB W H xs = waC W H (filW W H xs) := by rw [rwB, hh.1]; rfl
  have eF : ∀ t t', Does Try.prog 68 [.ref [.int .i64 W, .int .i64 H, .sli .f32 xs t] t'] (.agg [.int .i64 W, .int .i64 H, .own 0 .f32 (filW W H xs)]) := fun t t' => sFill hh
  refine Does.of_awp (X := cx 102) Try.func38 rfl (by kernel_rfl) rfl (by simp [cx]) [100] rfl ?_
  conv => whnf
  cases hC : waC W H (filW W H xs) with
  | false =>
    rw [hC] at eD eB
    have eO : rwO W H xs = [] := by rw [rwO, eB]; rfl
    rw [eB, eO]
    repeat (first
      | (refine ⟨⟨by kernel_rfl, by kernel_rfl⟩, ?_⟩; conv => whnf)
      | (refine And.intro (by first | omega | (simp; done) | (simp; omega)) ?_; conv => whnf)
      | (refine Or.inl (And.intro (by omega) ?_); conv => whnf)
      | (refine Exists.intro _ (And.intro (eF _ _) ?_); conv => whnf)
      | (refine Exists.intro _ (And.intro (eD _ _) ?_); conv => whnf))
    all_goals (try (conv => whnf))
    all_goals (repeat' (first | exact True.intro | (refine And.intro ?_ ?_ <;> (conv => whnf))))
    all_goals (first | rfl | (simp_all []; done) | (simp only [cond_true, cond_false, Bool.and_true, Bool.true_and, Bool.and_false, Bool.false_and]; rfl) | (simp_all []; omega))
  | true =>
    have eW : waO W H (filW W H xs) = waL W H (filW W H xs) := by rw [waO, hC]; rfl
    rw [hC, eW] at eD
    rw [hC] at eB
    have hdl : (waL W H (filW W H xs)).length = (filW W H xs).length := by rw [waL, tabN_len]; omega
    have eO : rwO W H xs = rwL (W * H) W H (filW W H xs) (waL W H (filW W H xs)) := by rw [rwO, eB, rwL_eq w1]; rfl
    rw [eB, eO]
    have eL : rwL (W * H) W H (filW W H xs) (waL W H (filW W H xs)) = wrN (waL W H (filW W H xs)) (rwF (W * H) W H (filW W H xs) (waL W H (filW W H xs))) (waL W H (filW W H xs)).length := by rw [wrN_all]; rfl
    rw [eL]
    clear eB eO eW hC eL
    generalize filW W H xs = f at *
    generalize waL W H f = ds at *
    have hS := stW_fix (N := W * H) (ds := ds) w1 k6
    have hSl := hS.1.1
    repeat (first
      | (refine ⟨⟨by kernel_rfl, by kernel_rfl⟩, ?_⟩; conv => whnf)
      | (refine And.intro (by first | omega | (simp; done) | (simp; omega)) ?_; conv => whnf)
      | (refine Or.inl (And.intro (by omega) ?_); conv => whnf)
      | (refine Exists.intro _ (And.intro (eF _ _) ?_); conv => whnf)
      | (refine Exists.intro _ (And.intro (eD _ _) ?_); conv => whnf)
      | (refine Exists.intro _ (And.intro (sSteps w1 hdl) ?_); conv => whnf))
    refine ⟨Nat, fun i => i ≤ ds.length, fun i => [(0, .ref [.int .i64 W, .int .i64 H, .sli .f32 xs t] t'), (4, .loc 16 0), (7, .osl 88), (8, .osl 100), (9, .int .i64 i)], fun i => [(16, .av [.int .i64 W, .int .i64 H, .osl 56]), (56, .tab .f32 f), (88, .tab (.int .i64) (stW (W * H) W H f ds)), (100, .tab (.int .i64) (wrN ds (rwF (W * H) W H f ds) i))], fun i => ds.length - i, ⟨0, id, Nat.zero_le _, rfl, ⟨rfl, rfl, rfl, rfl, rfl, trivial⟩, ⟨rfl, rfl, rfl, rfl, trivial⟩⟩, fun i hi => ?_⟩
    dsimp only at hi
    have hwl := wrN_length ds (rwF (W * H) W H f ds) i
    have eG := wrG (F := rwF (W * H) W H f ds) hi
    conv => whnf
    repeat (first
      | (refine ⟨⟨by kernel_rfl, by kernel_rfl⟩, ?_⟩; conv => whnf)
      | (refine And.intro (by first | omega | (simp; done) | (simp; omega)) ?_; conv => whnf)
      | (refine Or.inl (And.intro (by omega) ?_); conv => whnf))
    (refine br_intro (fun h => ?_) (fun h => ?_) <;> (conv => whnf))
    · have h : i < ds.length := by simp at h; omega
      have hC : Cel W H i := ⟨⟨k1, k2, k3, k4⟩, by omega, by omega⟩
      repeat (first
        | (refine ⟨⟨by kernel_rfl, by kernel_rfl⟩, ?_⟩; conv => whnf)
        | (refine And.intro (by first | omega | (simp; done) | (simp; omega)) ?_; conv => whnf)
        | (refine Or.inl (And.intro (by omega) ?_); conv => whnf))
      (refine br_intro (fun h2 => ?_) (fun h2 => ?_) <;> (conv => whnf))
      · have h2 : decide ((wrN ds (rwF (W * H) W H f ds) i).getD i 0 ≥ 0) = true := h2
        rw [eG] at h2
        have e := wrN_skip (f := rwF (W * H) W H f ds) (d := 0) h (rwF_Z (by rw [stZ, h2, Bool.or_true]))
        repeat (first
          | (refine ⟨⟨by kernel_rfl, by kernel_rfl⟩, ?_⟩; conv => whnf)
          | (refine And.intro (by first | omega | (simp; done) | (simp; omega)) ?_; conv => whnf)
          | (refine Or.inl (And.intro (by omega) ?_); conv => whnf)
          | (refine br_intro (fun h => by exfalso; first | (simp at h; done) | (simp at h; omega) | omega) (fun _ => ?_); conv => whnf)
          | (refine br_intro (fun _ => ?_) (fun h => by exfalso; first | (simp at h; done) | (simp at h; omega) | omega); conv => whnf))
        refine ⟨i + 1, id, ⟨h, by dsimp only; omega⟩, rfl, ⟨rfl, rfl, rfl, rfl, rfl, trivial⟩, ⟨rfl, rfl, rfl, congrArg (fun l => KS.live (Blk.tab (.int .i64) l)) e, trivial⟩⟩
      · have h2 : decide ((wrN ds (rwF (W * H) W H f ds) i).getD i 0 ≥ 0) = false := h2
        rw [eG] at h2
        repeat (first
          | (refine ⟨⟨by kernel_rfl, by kernel_rfl⟩, ?_⟩; conv => whnf)
          | (refine And.intro (by first | omega | (simp; done) | (simp; omega)) ?_; conv => whnf)
          | (refine Or.inl (And.intro (by omega) ?_); conv => whnf)
          | (refine Exists.intro _ (And.intro (sEdge hC) ?_); conv => whnf))
        (refine br_intro (fun h3 => ?_) (fun h3 => ?_) <;> (conv => whnf))
        · have h3 : edB W H i = true := h3
          have e := wrN_skip (f := rwF (W * H) W H f ds) (d := 0) h (rwF_Z (by rw [stZ, h3, Bool.true_or]))
          repeat (first
            | (refine ⟨⟨by kernel_rfl, by kernel_rfl⟩, ?_⟩; conv => whnf)
            | (refine And.intro (by first | omega | (simp; done) | (simp; omega)) ?_; conv => whnf)
            | (refine Or.inl (And.intro (by omega) ?_); conv => whnf)
            | (refine br_intro (fun h => by exfalso; first | (simp at h; done) | (simp at h; omega) | omega) (fun _ => ?_); conv => whnf)
            | (refine br_intro (fun _ => ?_) (fun h => by exfalso; first | (simp at h; done) | (simp at h; omega) | omega); conv => whnf))
          refine ⟨i + 1, id, ⟨h, by dsimp only; omega⟩, rfl, ⟨rfl, rfl, rfl, rfl, rfl, trivial⟩, ⟨rfl, rfl, rfl, congrArg (fun l => KS.live (Blk.tab (.int .i64) l)) e, trivial⟩⟩
        · have h3 : edB W H i = false := h3
          have hZ : stZ W H ds i = false := by rw [stZ, h2, h3]; rfl
          repeat (first
            | (refine ⟨⟨by kernel_rfl, by kernel_rfl⟩, ?_⟩; conv => whnf)
            | (refine And.intro (by first | omega | (simp; done) | (simp; omega)) ?_; conv => whnf)
            | (refine Or.inl (And.intro (by omega) ?_); conv => whnf)
            | (refine Exists.intro _ (And.intro (sNear hC) ?_); conv => whnf))
          refine ⟨Nat, fun k => k ≤ 8, fun k => [(0, .ref [.int .i64 W, .int .i64 H, .sli .f32 xs t] t'), (4, .loc 16 0), (7, .osl 88), (8, .osl 100), (9, .int .i64 i), (10, .osl 204), (11, .int .i64 (bwS W H f (stW (W * H) W H f ds) i k)), (12, .int .i64 k)], fun k => [(16, .av [.int .i64 W, .int .i64 H, .osl 56]), (56, .tab .f32 f), (88, .tab (.int .i64) (stW (W * H) W H f ds)), (100, .tab (.int .i64) (wrN ds (rwF (W * H) W H f ds) i)), (204, .tab (.int .i64) (nearL W H i))], fun k => 8 - k, ⟨0, id, Nat.zero_le _, rfl, ⟨rfl, rfl, rfl, rfl, rfl, rfl, rfl, rfl, trivial⟩, ⟨rfl, rfl, rfl, rfl, rfl, trivial⟩⟩, fun k hk => ?_⟩
          dsimp only at hk
          have hbr := bwS_range (s := stW (W * H) W H f ds) (i := i) w1 hk
          conv => whnf
          (refine br_intro (fun h4 => ?_) (fun h4 => ?_) <;> (conv => whnf))
          · have h4 : k < 8 := by simp at h4; omega
            have hlN : (nearL W H i).length = 8 := tabN_len _ _
            have hg : (nearL W H i).getD (k : Int).toNat (RK.int .i64).z = nbAt W H i k := nearL_getD h4
            cases hO : nbOk W H i k with
            | false =>
              have hg' := hg
              rw [nbAt_neg hO] at hg'
              have eB := bwS_no (f := f) (s := stW (W * H) W H f ds) hO
              repeat (first
                | (refine ⟨⟨by kernel_rfl, by kernel_rfl⟩, ?_⟩; conv => whnf)
                | (refine And.intro (by first | omega | (simp; done) | (simp; omega)) ?_; conv => whnf)
                | (refine Or.inl (And.intro (by omega) ?_); conv => whnf))
              (refine br_intro (fun h5 => ?_) (fun h5 => ?_) <;> (conv => whnf))
              · repeat (first
                  | (refine ⟨⟨by kernel_rfl, by kernel_rfl⟩, ?_⟩; conv => whnf)
                  | (refine And.intro (by first | omega | (simp; done) | (simp; omega)) ?_; conv => whnf)
                  | (refine Or.inl (And.intro (by omega) ?_); conv => whnf)
                  | (refine br_intro (fun h => by exfalso; first | (simp at h; done) | (simp at h; omega) | omega) (fun _ => ?_); conv => whnf)
                  | (refine br_intro (fun _ => ?_) (fun h => by exfalso; first | (simp at h; done) | (simp at h; omega) | omega); conv => whnf))
                refine ⟨k + 1, id, ⟨h4, by dsimp only; omega⟩, rfl, ⟨rfl, rfl, rfl, rfl, rfl, rfl, congrArg (AV.int .i64) eB, rfl, trivial⟩, ⟨rfl, rfl, rfl, rfl, rfl, trivial⟩⟩
              · exfalso
                have h5 : decide ((nearL W H i).getD (k : Int).toNat (RK.int .i64).z < 0) = false := h5
                rw [hg'] at h5; simp at h5
            | true =>
              obtain ⟨r1, r2, r3⟩ := nbC_lt w1 hO
              have hg' := hg
              rw [nbAt_pos hO] at hg'
              have eB := bwS_yes (f := f) (s := stW (W * H) W H f ds) hO
              have hc1 : (stW (W * H) W H f ds).getD ((nearL W H i).getD (k : Int).toNat (RK.int .i64).z).toNat 0 = (stW (W * H) W H f ds).getD (nbC W i k).toNat 0 := by rw [hg']
              repeat (first
                | (refine ⟨⟨by kernel_rfl, by kernel_rfl⟩, ?_⟩; conv => whnf)
                | (refine And.intro (by first | omega | (simp; done) | (simp; omega)) ?_; conv => whnf)
                | (refine Or.inl (And.intro (by omega) ?_); conv => whnf))
              (refine br_intro (fun h5 => ?_) (fun h5 => ?_) <;> (conv => whnf))
              · exfalso
                have h5 : decide ((nearL W H i).getD (k : Int).toNat (RK.int .i64).z < 0) = true := h5
                rw [hg'] at h5; simp at h5; omega
              · repeat (first
                  | (refine ⟨⟨by kernel_rfl, by kernel_rfl⟩, ?_⟩; conv => whnf)
                  | (refine And.intro (by first | omega | (simp; done) | (simp; omega)) ?_; conv => whnf)
                  | (refine Or.inl (And.intro (by omega) ?_); conv => whnf))
                (refine br_intro (fun h6 => ?_) (fun h6 => ?_) <;> (conv => whnf))
                · have h6 : fcmp .neq .f32 (f.getD ((nearL W H i).getD (k : Int).toNat (RK.int .i64).z).toNat 0) (f.getD i 0) = true := h6
                  rw [hg'] at h6
                  have h6' : fcmp .eql .f32 (f.getD (nbC W i k).toNat 0) (f.getD i 0) = false := by
                    have e : fcmp .neq .f32 (f.getD (nbC W i k).toNat 0) (f.getD i 0) = !(fcmp .eql .f32 (f.getD (nbC W i k).toNat 0) (f.getD i 0)) := rfl
                    rw [e] at h6; simpa using h6
                  rw [bwF_ne h6'] at eB
                  repeat (first
                    | (refine ⟨⟨by kernel_rfl, by kernel_rfl⟩, ?_⟩; conv => whnf)
                    | (refine And.intro (by first | omega | (simp; done) | (simp; omega)) ?_; conv => whnf)
                    | (refine Or.inl (And.intro (by omega) ?_); conv => whnf)
                    | (refine br_intro (fun h => by exfalso; first | (simp at h; done) | (simp at h; omega) | omega) (fun _ => ?_); conv => whnf)
                    | (refine br_intro (fun _ => ?_) (fun h => by exfalso; first | (simp at h; done) | (simp at h; omega) | omega); conv => whnf))
                  refine ⟨k + 1, id, ⟨h4, by dsimp only; omega⟩, rfl, ⟨rfl, rfl, rfl, rfl, rfl, rfl, congrArg (AV.int .i64) eB, rfl, trivial⟩, ⟨rfl, rfl, rfl, rfl, rfl, trivial⟩⟩
                · have h6 : fcmp .neq .f32 (f.getD ((nearL W H i).getD (k : Int).toNat (RK.int .i64).z).toNat 0) (f.getD i 0) = false := h6
                  rw [hg'] at h6
                  have h6' : fcmp .eql .f32 (f.getD (nbC W i k).toNat 0) (f.getD i 0) = true := by
                    have e : fcmp .neq .f32 (f.getD (nbC W i k).toNat 0) (f.getD i 0) = !(fcmp .eql .f32 (f.getD (nbC W i k).toNat 0) (f.getD i 0)) := rfl
                    rw [e] at h6; simpa using h6
                  repeat (first
                    | (refine ⟨⟨by kernel_rfl, by kernel_rfl⟩, ?_⟩; conv => whnf)
                    | (refine And.intro (by first | omega | (simp; done) | (simp; omega)) ?_; conv => whnf)
                    | (refine Or.inl (And.intro (by omega) ?_); conv => whnf))
                  (refine br_intro (fun h7 => ?_) (fun h7 => ?_) <;> (conv => whnf))
                  · have h7 : decide (bwS W H f (stW (W * H) W H f ds) i k < 0) = true := h7
                    rw [bwF_neg h6' (of_decide_eq_true h7)] at eB
                    have eB := hg'.trans eB
                    repeat (first
                      | (refine ⟨⟨by kernel_rfl, by kernel_rfl⟩, ?_⟩; conv => whnf)
                      | (refine And.intro (by first | omega | (simp; done) | (simp; omega)) ?_; conv => whnf)
                      | (refine Or.inl (And.intro (by omega) ?_); conv => whnf))
                    refine ⟨k + 1, id, ⟨h4, by dsimp only; omega⟩, rfl, ⟨rfl, rfl, rfl, rfl, rfl, rfl, congrArg (AV.int .i64) eB, rfl, trivial⟩, ⟨rfl, rfl, rfl, rfl, rfl, trivial⟩⟩
                  · have h7 : decide (bwS W H f (stW (W * H) W H f ds) i k < 0) = false := h7
                    have h7 := of_decide_eq_false h7
                    repeat (first
                      | (refine ⟨⟨by kernel_rfl, by kernel_rfl⟩, ?_⟩; conv => whnf)
                      | (refine And.intro (by first | omega | (simp; done) | (simp; omega)) ?_; conv => whnf)
                      | (refine Or.inl (And.intro (by omega) ?_); conv => whnf))
                    (refine br_intro (fun h8 => ?_) (fun h8 => ?_) <;> (conv => whnf))
                    · have h8 : decide ((stW (W * H) W H f ds).getD ((nearL W H i).getD (k : Int).toNat (RK.int .i64).z).toNat 0 < (stW (W * H) W H f ds).getD (bwS W H f (stW (W * H) W H f ds) i k).toNat 0) = true := h8
                      rw [hc1] at h8
                      rw [bwF_lt h6' (of_decide_eq_true h8)] at eB
                      have eB := hg'.trans eB
                      repeat (first
                        | (refine ⟨⟨by kernel_rfl, by kernel_rfl⟩, ?_⟩; conv => whnf)
                        | (refine And.intro (by first | omega | (simp; done) | (simp; omega)) ?_; conv => whnf)
                        | (refine Or.inl (And.intro (by omega) ?_); conv => whnf))
                      refine ⟨k + 1, id, ⟨h4, by dsimp only; omega⟩, rfl, ⟨rfl, rfl, rfl, rfl, rfl, rfl, congrArg (AV.int .i64) eB, rfl, trivial⟩, ⟨rfl, rfl, rfl, rfl, rfl, trivial⟩⟩
                    · have h8 : decide ((stW (W * H) W H f ds).getD ((nearL W H i).getD (k : Int).toNat (RK.int .i64).z).toNat 0 < (stW (W * H) W H f ds).getD (bwS W H f (stW (W * H) W H f ds) i k).toNat 0) = false := h8
                      rw [hc1] at h8
                      rw [bwF_ge h7 (of_decide_eq_false h8)] at eB
                      repeat (first
                        | (refine ⟨⟨by kernel_rfl, by kernel_rfl⟩, ?_⟩; conv => whnf)
                        | (refine And.intro (by first | omega | (simp; done) | (simp; omega)) ?_; conv => whnf)
                        | (refine Or.inl (And.intro (by omega) ?_); conv => whnf)
                        | (refine br_intro (fun h => by exfalso; first | (simp at h; done) | (simp at h; omega) | omega) (fun _ => ?_); conv => whnf)
                        | (refine br_intro (fun _ => ?_) (fun h => by exfalso; first | (simp at h; done) | (simp at h; omega) | omega); conv => whnf))
                      refine ⟨k + 1, id, ⟨h4, by dsimp only; omega⟩, rfl, ⟨rfl, rfl, rfl, rfl, rfl, rfl, congrArg (AV.int .i64) eB, rfl, trivial⟩, ⟨rfl, rfl, rfl, rfl, rfl, trivial⟩⟩
          · have h4 : k = 8 := by simp at h4; omega
            subst h4
            have e : bwS W H f (stW (W * H) W H f ds) i 8 = rwF (W * H) W H f ds i := (rwF_no hZ).symm
            repeat (first
              | (refine ⟨⟨by kernel_rfl, by kernel_rfl⟩, ?_⟩; conv => whnf)
              | (refine And.intro (by first | omega | (simp; done) | (simp; omega)) ?_; conv => whnf)
              | (refine Or.inl (And.intro (by omega) ?_); conv => whnf))
            refine ⟨i + 1, id, ⟨h, by dsimp only; omega⟩, rfl, ⟨rfl, rfl, rfl, rfl, rfl, trivial⟩, ⟨rfl, rfl, rfl, congrArg (fun x => KS.live (Blk.tab (.int .i64) ((wrN ds (rwF (W * H) W H f ds) i).set i x))) e, trivial⟩⟩
    · have h : i = ds.length := by simp at h; omega
      subst h
      repeat (first
        | (refine ⟨⟨by kernel_rfl, by kernel_rfl⟩, ?_⟩; conv => whnf)
        | (refine And.intro (by first | omega | (simp; done) | (simp; omega)) ?_; conv => whnf)
        | (refine Or.inl (And.intro (by omega) ?_); conv => whnf))
      all_goals (try (conv => whnf))
      all_goals (repeat' (first | exact True.intro | (refine And.intro ?_ ?_ <;> (conv => whnf))))
      all_goals (first | rfl | (simp_all []; done) | (simp only [cond_true, cond_false, Bool.and_true, Bool.true_and, Bool.and_false, Bool.false_and]; rfl) | (simp_all []; omega))

theorem sRunWays {W H : Int} {xs : List Nat} {t : AV} (hl : ∀ y ∈ xs, y < 2 ^ 32) (hn : xs.length ≤ 1048576) : Does Try.prog 7 [.agg [.int .i64 W, .int .i64 H, .sli .f32 xs t]] (.tup [.own 0 (.int .i64) (rwO W H xs), .bool (rwB W H xs)]) := by
  refine Does.of_awp (X := cx 9) Try.func7 rfl (by kernel_rfl) rfl (by simp [cx]) [24] rfl ?_
  conv => whnf
  repeat (first
    | (refine ⟨⟨by kernel_rfl, by kernel_rfl⟩, ?_⟩; conv => whnf)
    | (refine And.intro (by first | omega | (simp; done) | (simp; omega)) ?_; conv => whnf)
    | (refine Or.inl (And.intro (by omega) ?_); conv => whnf)
    | (refine Exists.intro _ (And.intro (sIs (by first | omega | (simp; done) | (simp; omega))) ?_); conv => whnf))
  (refine br_intro (fun g1 => ?_) (fun g1 => ?_) <;> (conv => whnf))
  · have g1 : hillB W H xs = false := by simpa using g1
    have eB : rwB W H xs = false := by rw [rwB, g1]; rfl
    have eO : rwO W H xs = [] := by rw [rwO, eB]; rfl
    rw [eB, eO]
    all_goals (try (conv => whnf))
    all_goals (repeat' (first | exact True.intro | (refine And.intro ?_ ?_ <;> (conv => whnf))))
    all_goals (first | rfl | (simp_all []; done) | (simp only [cond_true, cond_false, Bool.and_true, Bool.true_and, Bool.and_false, Bool.false_and]; rfl) | (simp_all []; omega))
  have g1 : hillB W H xs = true := by simpa using g1
  have hh : HillW W H xs := ⟨g1, hl⟩
  repeat (first
    | (refine ⟨⟨by kernel_rfl, by kernel_rfl⟩, ?_⟩; conv => whnf)
    | (refine And.intro (by first | omega | (simp; done) | (simp; omega)) ?_; conv => whnf)
    | (refine Or.inl (And.intro (by omega) ?_); conv => whnf)
    | (refine Exists.intro _ (And.intro (sRun hh) ?_); conv => whnf))
  all_goals (try (conv => whnf))
  all_goals (repeat' (first | exact True.intro | (refine And.intro ?_ ?_ <;> (conv => whnf))))
  all_goals (first | rfl | (simp_all []; done) | (simp only [cond_true, cond_false, Bool.and_true, Bool.true_and, Bool.and_false, Bool.false_and]; rfl) | (simp_all []; omega))

theorem stA_list {W H : Int} {f : List Nat} {s : List Int} {i : Nat} (h : ∀ j, j < (nbL W H i 8).length → fcmp .eql .f32 (f.getD ((nbL W H i 8).getD j RK.nb.z).1.toNat 0) (f.getD i 0) = true → s.getD i 0 ≤ s.getD ((nbL W H i 8).getD j RK.nb.z).1.toNat 0 + 1) : stAt W H f s i := fun k hk hA => by
  unfold stA at hA
  rw [Bool.and_eq_true] at hA
  obtain ⟨r, h1, h2⟩ := nbL_in hA.1 hk
  obtain ⟨j, hj, e⟩ := List.getElem_of_mem h1
  have := h j hj
  rw [show (nbL W H i 8).getD j RK.nb.z = r from by rw [List.getD_eq_getElem?_getD, List.getElem?_eq_getElem hj]; exact e, h2] at this
  exact this hA.2
theorem foB_range {W H : Int} {f : List Nat} {s : List Int} (hh : HillW W H f) {i j : Nat} : -1 ≤ fo (bwF f s i) (-1) (nbL W H i 8) j ∧ fo (bwF f s i) (-1) (nbL W H i 8) j < f.length :=
  fo_range hh (fun r hr => List.mem_of_mem_take hr) (-1) (by omega)
theorem stW_zero {W H : Int} {f : List Nat} {ds s : List Int} (h : stFix 256 W H f ds s) {i : Nat} (hi : i < f.length) : (s.getD i 0 == 0) = stZ W H ds i := by
  obtain ⟨g1, g2, g3, g4⟩ := h.1.2.1 i hi
  cases hz : stZ W H ds i with
  | true => rw [g1 hz]; rfl
  | false =>
    have := g2 hz
    exact beq_eq_false_iff_ne.2 (by omega)

set_option maxHeartbeats 4000000 in
theorem iRunWays {W H : Int} {xs : List Nat} {t : AV} (hl : ∀ y ∈ xs, y < 2 ^ 32) (hn : xs.length ≤ 1048576) : Does Try.prog 9 [.agg [.int .i64 W, .int .i64 H, .sli .f32 xs t]] (.tup [.own 0 (.int .i64) (rwO W H xs), .bool (rwB W H xs)]) := by
  have eF : ∀ t, Does Try.prog 17 [.agg [.int .i64 W, .int .i64 H, .sli .f32 xs t]] (filV W H xs) := fun t => iFillHill hl hn
  unfold filV filO at eF
  cases g1 : hillB W H xs with
  | false =>
    have eB : rwB W H xs = false := by rw [rwB, g1]; rfl
    have eO : rwO W H xs = [] := by rw [rwO, eB]; rfl
    rw [eB, eO]
    simp only [g1, selI, cond_false] at eF
    refine Does.of_awp (X := cx 158) Try.func9 rfl (by kernel_rfl) rfl (by simp [cx]) [112] rfl ?_
    conv => whnf
    repeat (first
      | (refine ⟨⟨by kernel_rfl, by kernel_rfl⟩, ?_⟩; conv => whnf)
      | (refine And.intro (by first | omega | (simp; done) | (simp; omega)) ?_; conv => whnf)
      | (refine Or.inl (And.intro (by omega) ?_); conv => whnf)
      | (refine Exists.intro _ (And.intro (eF _) ?_); conv => whnf))
    all_goals (try (conv => whnf))
    all_goals (repeat' (first | exact True.intro | (refine And.intro ?_ ?_ <;> (conv => whnf))))
    all_goals (first | rfl | (simp_all []; done) | (simp only [cond_true, cond_false, Bool.and_true, Bool.true_and, Bool.and_false, Bool.false_and]; rfl) | (simp_all []; omega))
  | true =>
    have hh : HillW W H xs := ⟨g1, hl⟩
    simp only [g1, selI, cond_true] at eF
    obtain ⟨k1, k2, k3, k4, k5, k6, k7⟩ := hill_len g1
    obtain ⟨w1, w2⟩ := filW_ok hh
    have eD : ∀ t, Does Try.prog 28 [.agg [.int .i64 W, .int .i64 H, .sli .f32 (filW W H xs) t]] (.tup [.own 0 (.int .i64) (waO W H (filW W H xs)), .bool (waC W H (filW W H xs))]) := fun t => iWays (by omega)
    have eB : rwB W H xs = waC W H (filW W H xs) := by rw [rwB, g1]; rfl
    refine Does.of_awp (X := cx 158) Try.func9 rfl (by kernel_rfl) rfl (by simp [cx]) [112] rfl ?_
    conv => whnf
    cases hC : waC W H (filW W H xs) with
    | false =>
      rw [hC] at eD eB
      have eO : rwO W H xs = [] := by rw [rwO, eB]; rfl
      rw [eB, eO]
      repeat (first
        | (refine ⟨⟨by kernel_rfl, by kernel_rfl⟩, ?_⟩; conv => whnf)
        | (refine And.intro (by first | omega | (simp; done) | (simp; omega)) ?_; conv => whnf)
        | (refine Or.inl (And.intro (by omega) ?_); conv => whnf)
        | (refine Exists.intro _ (And.intro (eF _) ?_); conv => whnf)
        | (refine Exists.intro _ (And.intro (eD _) ?_); conv => whnf))
      all_goals (try (conv => whnf))
      all_goals (repeat' (first | exact True.intro | (refine And.intro ?_ ?_ <;> (conv => whnf))))
      all_goals (first | rfl | (simp_all []; done) | (simp only [cond_true, cond_false, Bool.and_true, Bool.true_and, Bool.and_false, Bool.false_and]; rfl) | (simp_all []; omega))
    | true =>
      have eW : waO W H (filW W H xs) = waL W H (filW W H xs) := by rw [waO, hC]; rfl
      rw [hC, eW] at eD
      rw [hC] at eB
      have hdl : (waL W H (filW W H xs)).length = (filW W H xs).length := by rw [waL, tabN_len]; omega
      have eO : rwO W H xs = rwL 256 W H (filW W H xs) (waL W H (filW W H xs)) := by rw [rwO, eB]; rfl
      rw [eB, eO]
      have eL : rwL 256 W H (filW W H xs) (waL W H (filW W H xs)) = wrN (waL W H (filW W H xs)) (rwF 256 W H (filW W H xs) (waL W H (filW W H xs))) (waL W H (filW W H xs)).length := by rw [wrN_all]; rfl
      rw [eL]
      clear eB eO eW hC eL
      generalize filW W H xs = f at *
      generalize waL W H f = ds at *
      repeat (first
        | (refine ⟨⟨by kernel_rfl, by kernel_rfl⟩, ?_⟩; conv => whnf)
        | (refine And.intro (by first | omega | (simp; done) | (simp; omega)) ?_; conv => whnf)
        | (refine Or.inl (And.intro (by omega) ?_); conv => whnf)
        | (refine Exists.intro _ (And.intro (eF _) ?_); conv => whnf)
        | (refine Exists.intro _ (And.intro (eD _) ?_); conv => whnf))
      refine ⟨Nat, fun i => i ≤ ds.length, fun i => [(4, .loc 16 0), (6, .osl 112), (7, .osl 132), (34, .osl 112), (35, .int .i64 ds.length), (36, .int .i64 i)], fun i => [(16, .av [.int .i64 W, .int .i64 H, .osl 84]), (84, .tab .f32 f), (112, .tab (.int .i64) ds), (132, .tab (.int .i64) (tabN (siF 256 W H ds) i))], fun i => ds.length - i, ⟨0, id, Nat.zero_le _, rfl, ⟨rfl, rfl, rfl, rfl, rfl, rfl, trivial⟩, ⟨rfl, rfl, rfl, rfl, trivial⟩⟩, fun i hi => ?_⟩
      dsimp only at hi
      have htl := tabN_len (siF 256 W H ds) i
      conv => whnf
      (refine br_intro (fun h => ?_) (fun h => ?_) <;> (conv => whnf))
      · have h : i < ds.length := by simp at h; omega
        have hC : Cel W H i := ⟨⟨k1, k2, k3, k4⟩, by omega, by omega⟩
        repeat (first
          | (refine ⟨⟨by kernel_rfl, by kernel_rfl⟩, ?_⟩; conv => whnf)
          | (refine And.intro (by first | omega | (simp; done) | (simp; omega)) ?_; conv => whnf)
          | (refine Or.inl (And.intro (by omega) ?_); conv => whnf))
        (refine br_intro (fun h2 => ?_) (fun h2 => ?_) <;> (conv => whnf))
        · have h2 : decide (ds.getD i 0 ≥ 0) = true := h2
          have e : (0 : Int) = siF 256 W H ds i := by rw [siF, stZ, h2, Bool.or_true]; rfl
          repeat (first
            | (refine ⟨⟨by kernel_rfl, by kernel_rfl⟩, ?_⟩; conv => whnf)
            | (refine And.intro (by first | omega | (simp; done) | (simp; omega)) ?_; conv => whnf)
            | (refine Or.inl (And.intro (by omega) ?_); conv => whnf)
            | (refine br_intro (fun h => by exfalso; first | (simp at h; done) | (simp at h; omega) | omega) (fun _ => ?_); conv => whnf)
            | (refine br_intro (fun _ => ?_) (fun h => by exfalso; first | (simp at h; done) | (simp at h; omega) | omega); conv => whnf))
          refine ⟨i + 1, ren [(132, 204)], ⟨h, by dsimp only; omega⟩, rfl, ⟨rfl, rfl, rfl, rfl, rfl, rfl, trivial⟩, ⟨rfl, rfl, rfl, congrArg (fun x => KS.live (Blk.tab (.int .i64) (tabN (siF 256 W H ds) i ++ [x]))) e, trivial⟩⟩
        · have h2 : decide (ds.getD i 0 ≥ 0) = false := h2
          repeat (first
            | (refine ⟨⟨by kernel_rfl, by kernel_rfl⟩, ?_⟩; conv => whnf)
            | (refine And.intro (by first | omega | (simp; done) | (simp; omega)) ?_; conv => whnf)
            | (refine Or.inl (And.intro (by omega) ?_); conv => whnf)
            | (refine Exists.intro _ (And.intro (iEdge hC) ?_); conv => whnf))
          (refine br_intro (fun h3 => ?_) (fun h3 => ?_) <;> (conv => whnf))
          · have h3 : edB W H i = true := h3
            have e : (0 : Int) = siF 256 W H ds i := by rw [siF, stZ, h3, Bool.true_or]; rfl
            repeat (first
              | (refine ⟨⟨by kernel_rfl, by kernel_rfl⟩, ?_⟩; conv => whnf)
              | (refine And.intro (by first | omega | (simp; done) | (simp; omega)) ?_; conv => whnf)
              | (refine Or.inl (And.intro (by omega) ?_); conv => whnf)
              | (refine br_intro (fun h => by exfalso; first | (simp at h; done) | (simp at h; omega) | omega) (fun _ => ?_); conv => whnf)
              | (refine br_intro (fun _ => ?_) (fun h => by exfalso; first | (simp at h; done) | (simp at h; omega) | omega); conv => whnf))
            refine ⟨i + 1, ren [(132, 204)], ⟨h, by dsimp only; omega⟩, rfl, ⟨rfl, rfl, rfl, rfl, rfl, rfl, trivial⟩, ⟨rfl, rfl, rfl, congrArg (fun x => KS.live (Blk.tab (.int .i64) (tabN (siF 256 W H ds) i ++ [x]))) e, trivial⟩⟩
          · have h3 : edB W H i = false := h3
            have e : (256 : Int) = siF 256 W H ds i := by rw [siF, stZ, h2, h3]; rfl
            repeat (first
              | (refine ⟨⟨by kernel_rfl, by kernel_rfl⟩, ?_⟩; conv => whnf)
              | (refine And.intro (by first | omega | (simp; done) | (simp; omega)) ?_; conv => whnf)
              | (refine Or.inl (And.intro (by omega) ?_); conv => whnf)
              | (refine br_intro (fun h => by exfalso; first | (simp at h; done) | (simp at h; omega) | omega) (fun _ => ?_); conv => whnf)
              | (refine br_intro (fun _ => ?_) (fun h => by exfalso; first | (simp at h; done) | (simp at h; omega) | omega); conv => whnf))
            refine ⟨i + 1, ren [(132, 204)], ⟨h, by dsimp only; omega⟩, rfl, ⟨rfl, rfl, rfl, rfl, rfl, rfl, trivial⟩, ⟨rfl, rfl, rfl, congrArg (fun x => KS.live (Blk.tab (.int .i64) (tabN (siF 256 W H ds) i ++ [x]))) e, trivial⟩⟩
      have h : i = ds.length := by simp at h; omega
      subst h
      have hI0 : stInv 256 W H f ds (tabN (siF 256 W H ds) ds.length) := by rw [hdl]; exact st_init (by omega)
      repeat (first
        | (refine ⟨⟨by kernel_rfl, by kernel_rfl⟩, ?_⟩; conv => whnf)
        | (refine And.intro (by first | omega | (simp; done) | (simp; omega)) ?_; conv => whnf)
        | (refine Or.inl (And.intro (by omega) ?_); conv => whnf))
      refine ⟨List Int × Bool, fun p => stInv 256 W H f ds p.1 ∧ (p.2 = false → stFix 256 W H f ds p.1), fun p => [(4, .loc 16 0), (6, .osl 112), (7, .osl 132), (11, .bool p.2)], fun p => [(16, .av [.int .i64 W, .int .i64 H, .osl 84]), (84, .tab .f32 f), (112, .tab (.int .i64) ds), (132, .tab (.int .i64) p.1)], fun p => 2 * sw p.1 + (bif p.2 then 1 else 0), ⟨(tabN (siF 256 W H ds) ds.length, true), id, ⟨hI0, fun e => by cases e⟩, rfl, ⟨rfl, rfl, rfl, rfl, trivial⟩, ⟨rfl, rfl, rfl, rfl, trivial⟩⟩, fun p hp => ?_⟩
      obtain ⟨o0, c0⟩ := p
      obtain ⟨hI, hF⟩ := hp
      dsimp only at hI hF
      clear hI0 htl
      have hol0 := hI.1
      conv => whnf
      (refine br_intro (fun hc => ?_) (fun hc => ?_) <;> (conv => whnf))
      · have hc : c0 = true := hc
        subst hc
        repeat (first
          | (refine ⟨⟨by kernel_rfl, by kernel_rfl⟩, ?_⟩; conv => whnf)
          | (refine And.intro (by first | omega | (simp; done) | (simp; omega)) ?_; conv => whnf)
          | (refine Or.inl (And.intro (by omega) ?_); conv => whnf))
        refine ⟨List Int × Bool × Nat, fun q => stInv 256 W H f ds q.1 ∧ q.2.2 ≤ f.length ∧ (q.2.1 = true → sw q.1 < sw o0) ∧ (q.2.1 = false → q.1 = o0 ∧ ∀ j : Nat, j < q.2.2 → stAt W H f o0 j), fun q => [(4, .loc 16 0), (6, .osl 112), (7, .osl 132), (11, .bool q.2.1), (55, .int .i64 o0.length), (56, .int .i64 q.2.2)], fun q => [(16, .av [.int .i64 W, .int .i64 H, .osl 84]), (84, .tab .f32 f), (112, .tab (.int .i64) ds), (132, .tab (.int .i64) q.1)], fun q => f.length - q.2.2, ⟨(o0, false, 0), id, ⟨hI, Nat.zero_le _, (fun e => by cases e), fun _ => ⟨rfl, fun j hj => by dsimp only at hj; omega⟩⟩, rfl, ⟨rfl, rfl, rfl, rfl, rfl, rfl, trivial⟩, ⟨rfl, rfl, rfl, rfl, trivial⟩⟩, fun q hq => ?_⟩
        obtain ⟨o, ch, i⟩ := q
        obtain ⟨hJ, hi, hw1, hw2⟩ := hq
        dsimp only at hJ hi hw1 hw2
        conv => whnf
        (refine br_intro (fun h => ?_) (fun h => ?_) <;> (conv => whnf))
        · have h : i < f.length := by simp at h; omega
          have hC : Cel W H i := ⟨⟨k1, k2, k3, k4⟩, by omega, by omega⟩
          have hlen := nbL_len W H i 8
          repeat (first
            | (refine ⟨⟨by kernel_rfl, by kernel_rfl⟩, ?_⟩; conv => whnf)
            | (refine And.intro (by first | omega | (simp; done) | (simp; omega)) ?_; conv => whnf)
            | (refine Or.inl (And.intro (by omega) ?_); conv => whnf)
            | (refine Exists.intro _ (And.intro (iNbrs hC) ?_); conv => whnf))
          refine ⟨List Int × Bool × Nat, fun q => stInv 256 W H f ds q.1 ∧ q.2.2 ≤ (nbL W H i 8).length ∧ (q.2.1 = true → sw q.1 < sw o0) ∧ (q.2.1 = false → q.1 = o0 ∧ (∀ j : Nat, j < i → stAt W H f o0 j) ∧ ∀ j, j < q.2.2 → fcmp .eql .f32 (f.getD ((nbL W H i 8).getD j RK.nb.z).1.toNat 0) (f.getD i 0) = true → o0.getD i 0 ≤ o0.getD ((nbL W H i 8).getD j RK.nb.z).1.toNat 0 + 1), fun q => [(4, .loc 16 0), (6, .osl 112), (7, .osl 132), (11, .bool q.2.1), (12, .int .i64 i), (55, .int .i64 o0.length), (56, .int .i64 i), (61, .osl 244), (62, .int .i64 (nbL W H i 8).length), (63, .int .i64 q.2.2)], fun q => [(16, .av [.int .i64 W, .int .i64 H, .osl 84]), (84, .tab .f32 f), (112, .tab (.int .i64) ds), (132, .tab (.int .i64) q.1), (244, .tab .nb (nbL W H i 8))], fun q => (nbL W H i 8).length - q.2.2, ⟨(o, ch, 0), id, ⟨hJ, Nat.zero_le _, hw1, fun e => ⟨(hw2 e).1, (hw2 e).2, fun k hk => by dsimp only at hk; omega⟩⟩, rfl, ⟨rfl, rfl, rfl, rfl, rfl, rfl, rfl, rfl, rfl, rfl, trivial⟩, ⟨rfl, rfl, rfl, rfl, rfl, trivial⟩⟩, fun q hq => ?_⟩
          clear hJ hw1 hw2
          obtain ⟨o, ch, j⟩ := q
          obtain ⟨hJ, hj, hw1, hw2⟩ := hq
          dsimp only at hJ hj hw1 hw2
          have hol := hJ.1
          conv => whnf
          (refine br_intro (fun h2 => ?_) (fun h2 => ?_) <;> (conv => whnf))
          · have h2 : j < (nbL W H i 8).length := by simp at h2; omega
            have hm : (nbL W H i 8).getD j RK.nb.z ∈ nbL W H i 8 := getD_mem h2 _
            obtain ⟨k, hk8, hO, hrk⟩ := nbL_ex hm
            obtain ⟨r1, r2, r3⟩ := nbC_lt w1 hO
            have hr : 0 ≤ ((nbL W H i 8).getD j RK.nb.z).1 ∧ ((nbL W H i 8).getD j RK.nb.z).1 < f.length := by rw [hrk]; exact ⟨r1, r2⟩
            have hb1 := (hJ.2.1 _ r3).2.2
            have hb2 := (hJ.2.1 i h).2.2
            rw [← hrk] at hb1
            have hr2 := hr
            have hm2 : j < (nbL W H i 8).length := h2
            have hb3 := hb1
            simp at hr2 hm2 hb3
            have next : fcmp .eql .f32 (f.getD ((nbL W H i 8).getD j RK.nb.z).1.toNat 0) (f.getD i 0) = false ∨ (o.getD i 0 ≤ o.getD ((nbL W H i 8).getD j RK.nb.z).1.toNat 0 + 1) → (ch = false → o = o0 ∧ (∀ j : Nat, j < i → stAt W H f o0 j) ∧ ∀ j', j' < j + 1 → fcmp .eql .f32 (f.getD ((nbL W H i 8).getD j' RK.nb.z).1.toNat 0) (f.getD i 0) = true → o0.getD i 0 ≤ o0.getD ((nbL W H i 8).getD j' RK.nb.z).1.toNat 0 + 1) := fun hor e => by
              obtain ⟨e1, e2, e3⟩ := hw2 e
              refine ⟨e1, e2, fun j' hj' hA => ?_⟩
              rcases Nat.lt_or_eq_of_le (show j' ≤ j from Nat.le_of_lt_succ hj') with h' | h'
              · exact e3 j' h' hA
              · subst h'
                rcases hor with hor | hor
                · rw [hor] at hA; cases hA
                · rw [← e1]; exact hor
            repeat (first
              | (refine ⟨⟨by kernel_rfl, by kernel_rfl⟩, ?_⟩; conv => whnf)
              | (refine And.intro (by first | omega | (simp; done) | (simp; omega)) ?_; conv => whnf)
              | (refine Or.inl (And.intro (by omega) ?_); conv => whnf))
            (refine br_intro (fun h4 => ?_) (fun h4 => ?_) <;> (conv => whnf))
            · have h4 : fcmp .eql .f32 (f.getD ((nbL W H i 8).getD j RK.nb.z).1.toNat 0) (f.getD i 0) = true := h4
              have hA : stA W H f i k = true := by rw [stA_eq hO, ← hrk]; exact h4
              repeat (first
                | (refine ⟨⟨by kernel_rfl, by kernel_rfl⟩, ?_⟩; conv => whnf)
                | (refine And.intro (by first | omega | (simp; done) | (simp; omega)) ?_; conv => whnf)
                | (refine Or.inl (And.intro (by omega) ?_); conv => whnf))
              (refine br_intro (fun h5 => ?_) (fun h5 => ?_) <;> (conv => whnf))
              · have h5 : decide (o.getD ((nbL W H i 8).getD j RK.nb.z).1.toNat 0 + 1 < o.getD i 0) = true := h5
                have hV : o.getD ((nbL W H i 8).getD j RK.nb.z).1.toNat 0 + 1 = o.getD (nbC W i k).toNat 0 + 1 := by rw [hrk]
                rw [hV] at h5
                have h5 := of_decide_eq_true h5
                obtain ⟨u1, u2⟩ := st_upd w1 hJ h hk8 hA h5
                have hwo := sw_le hw1 fun e => (hw2 e).1
                repeat (first
                  | (refine ⟨⟨by kernel_rfl, by kernel_rfl⟩, ?_⟩; conv => whnf)
                  | (refine And.intro (by first | omega | (simp; done) | (simp; omega)) ?_; conv => whnf)
                  | (refine Or.inl (And.intro (by omega) ?_); conv => whnf))
                refine ⟨(o.set i (o.getD (nbC W i k).toNat 0 + 1), true, j + 1), id, ⟨⟨u1, h2, fun _ => Nat.lt_of_lt_of_le u2 hwo, fun e => by cases e⟩, by dsimp only; omega⟩, rfl, ⟨rfl, rfl, rfl, rfl, rfl, rfl, rfl, rfl, rfl, rfl, trivial⟩, ⟨rfl, rfl, rfl, congrArg (fun x => KS.live (Blk.tab (.int .i64) (o.set i x))) hV, rfl, trivial⟩⟩
              · have h5 : decide (o.getD ((nbL W H i 8).getD j RK.nb.z).1.toNat 0 + 1 < o.getD i 0) = false := h5
                have h5 := of_decide_eq_false h5
                repeat (first
                  | (refine ⟨⟨by kernel_rfl, by kernel_rfl⟩, ?_⟩; conv => whnf)
                  | (refine And.intro (by first | omega | (simp; done) | (simp; omega)) ?_; conv => whnf)
                  | (refine Or.inl (And.intro (by omega) ?_); conv => whnf)
                  | (refine br_intro (fun h => by exfalso; first | (simp at h; done) | (simp at h; omega) | omega) (fun _ => ?_); conv => whnf)
                  | (refine br_intro (fun _ => ?_) (fun h => by exfalso; first | (simp at h; done) | (simp at h; omega) | omega); conv => whnf))
                refine ⟨(o, ch, j + 1), id, ⟨⟨hJ, h2, hw1, next (.inr (by omega))⟩, by dsimp only; omega⟩, rfl, ⟨rfl, rfl, rfl, rfl, rfl, rfl, rfl, rfl, rfl, rfl, trivial⟩, ⟨rfl, rfl, rfl, rfl, rfl, trivial⟩⟩
            · have h4 : fcmp .eql .f32 (f.getD ((nbL W H i 8).getD j RK.nb.z).1.toNat 0) (f.getD i 0) = false := h4
              repeat (first
                | (refine ⟨⟨by kernel_rfl, by kernel_rfl⟩, ?_⟩; conv => whnf)
                | (refine And.intro (by first | omega | (simp; done) | (simp; omega)) ?_; conv => whnf)
                | (refine Or.inl (And.intro (by omega) ?_); conv => whnf)
                | (refine br_intro (fun h => by exfalso; first | (simp at h; done) | (simp at h; omega) | omega) (fun _ => ?_); conv => whnf)
                | (refine br_intro (fun _ => ?_) (fun h => by exfalso; first | (simp at h; done) | (simp at h; omega) | omega); conv => whnf))
              refine ⟨(o, ch, j + 1), id, ⟨⟨hJ, h2, hw1, next (.inl h4)⟩, by dsimp only; omega⟩, rfl, ⟨rfl, rfl, rfl, rfl, rfl, rfl, rfl, rfl, rfl, rfl, trivial⟩, ⟨rfl, rfl, rfl, rfl, rfl, trivial⟩⟩
          · have h2 : j = (nbL W H i 8).length := by simp at h2; omega
            subst h2
            repeat (first
              | (refine ⟨⟨by kernel_rfl, by kernel_rfl⟩, ?_⟩; conv => whnf)
              | (refine And.intro (by first | omega | (simp; done) | (simp; omega)) ?_; conv => whnf)
              | (refine Or.inl (And.intro (by omega) ?_); conv => whnf))
            refine ⟨(o, ch, i + 1), id, ⟨⟨hJ, h, hw1, fun e => ⟨(hw2 e).1, fun j hj => ?_⟩⟩, by dsimp only; omega⟩, rfl, ⟨rfl, rfl, rfl, rfl, rfl, rfl, trivial⟩, ⟨rfl, rfl, rfl, rfl, trivial⟩⟩
            rcases Nat.lt_or_eq_of_le (show j ≤ i from Nat.le_of_lt_succ hj) with h' | h'
            · exact (hw2 e).2.1 j h'
            · subst h'; exact stA_list (hw2 e).2.2
        · have h : i = f.length := by simp at h; omega
          subst h
          repeat (first
            | (refine ⟨⟨by kernel_rfl, by kernel_rfl⟩, ?_⟩; conv => whnf)
            | (refine And.intro (by first | omega | (simp; done) | (simp; omega)) ?_; conv => whnf)
            | (refine Or.inl (And.intro (by omega) ?_); conv => whnf))
          refine ⟨(o, ch), id, ⟨⟨hJ, fun e => ⟨hJ, fun j hj => ?_⟩⟩, ?_⟩, rfl, ⟨rfl, rfl, rfl, rfl, trivial⟩, ⟨rfl, rfl, rfl, rfl, trivial⟩⟩
          · have := (hw2 e).2 j hj
            rw [(hw2 e).1]; exact this
          · dsimp only
            cases ch
            · rw [(hw2 rfl).1, cond_true, cond_false]; omega
            · have := hw1 rfl
              rw [cond_true]; omega
      have hc : c0 = false := hc
      subst hc
      have hX := hF rfl
      have eS := stW_eq hX
      clear hF hI hol0
      rw [eS] at hX
      subst eS
      have hSl := hX.1.1
      repeat (first
        | (refine ⟨⟨by kernel_rfl, by kernel_rfl⟩, ?_⟩; conv => whnf)
        | (refine And.intro (by first | omega | (simp; done) | (simp; omega)) ?_; conv => whnf)
        | (refine Or.inl (And.intro (by omega) ?_); conv => whnf))
      refine ⟨Nat, fun i => i ≤ ds.length, fun i => [(4, .loc 16 0), (6, .osl 112), (7, .osl 132), (104, .int .i64 ds.length), (105, .int .i64 i)], fun i => [(16, .av [.int .i64 W, .int .i64 H, .osl 84]), (84, .tab .f32 f), (112, .tab (.int .i64) (wrN ds (rwF 256 W H f ds) i)), (132, .tab (.int .i64) (stW 256 W H f ds))], fun i => ds.length - i, ⟨0, id, Nat.zero_le _, rfl, ⟨rfl, rfl, rfl, rfl, rfl, trivial⟩, ⟨rfl, rfl, rfl, rfl, trivial⟩⟩, fun i hi => ?_⟩
      dsimp only at hi
      have hwl := wrN_length ds (rwF 256 W H f ds) i
      conv => whnf
      (refine br_intro (fun h => ?_) (fun h => ?_) <;> (conv => whnf))
      · have h : i < ds.length := by simp at h; omega
        have hif : i < f.length := by omega
        have hC : Cel W H i := ⟨⟨k1, k2, k3, k4⟩, by omega, by omega⟩
        have hlen := nbL_len W H i 8
        have hz := stW_zero hX hif
        repeat (first
          | (refine ⟨⟨by kernel_rfl, by kernel_rfl⟩, ?_⟩; conv => whnf)
          | (refine And.intro (by first | omega | (simp; done) | (simp; omega)) ?_; conv => whnf)
          | (refine Or.inl (And.intro (by omega) ?_); conv => whnf))
        (refine br_intro (fun h2 => ?_) (fun h2 => ?_) <;> (conv => whnf))
        · have h2 : ((stW 256 W H f ds).getD i 0 == 0) = true := h2
          rw [hz] at h2
          have e := wrN_skip (f := rwF 256 W H f ds) (d := 0) h (rwF_Z h2)
          repeat (first
            | (refine ⟨⟨by kernel_rfl, by kernel_rfl⟩, ?_⟩; conv => whnf)
            | (refine And.intro (by first | omega | (simp; done) | (simp; omega)) ?_; conv => whnf)
            | (refine Or.inl (And.intro (by omega) ?_); conv => whnf)
            | (refine br_intro (fun h => by exfalso; first | (simp at h; done) | (simp at h; omega) | omega) (fun _ => ?_); conv => whnf)
            | (refine br_intro (fun _ => ?_) (fun h => by exfalso; first | (simp at h; done) | (simp at h; omega) | omega); conv => whnf))
          refine ⟨i + 1, id, ⟨h, by dsimp only; omega⟩, rfl, ⟨rfl, rfl, rfl, rfl, rfl, trivial⟩, ⟨rfl, rfl, congrArg (fun l => KS.live (Blk.tab (.int .i64) l)) e, rfl, trivial⟩⟩
        · have h2 : ((stW 256 W H f ds).getD i 0 == 0) = false := h2
          rw [hz] at h2
          repeat (first
            | (refine ⟨⟨by kernel_rfl, by kernel_rfl⟩, ?_⟩; conv => whnf)
            | (refine And.intro (by first | omega | (simp; done) | (simp; omega)) ?_; conv => whnf)
            | (refine Or.inl (And.intro (by omega) ?_); conv => whnf)
            | (refine Exists.intro _ (And.intro (iNbrs hC) ?_); conv => whnf))
          refine ⟨Nat, fun j => j ≤ (nbL W H i 8).length, fun j => [(4, .loc 16 0), (6, .osl 112), (7, .osl 132), (15, .int .i64 i), (16, .int .i64 (fo (bwF f (stW 256 W H f ds) i) (-1) (nbL W H i 8) j)), (104, .int .i64 ds.length), (105, .int .i64 i), (115, .osl 460), (116, .int .i64 (nbL W H i 8).length), (117, .int .i64 j)], fun j => [(16, .av [.int .i64 W, .int .i64 H, .osl 84]), (84, .tab .f32 f), (112, .tab (.int .i64) (wrN ds (rwF 256 W H f ds) i)), (132, .tab (.int .i64) (stW 256 W H f ds)), (460, .tab .nb (nbL W H i 8))], fun j => (nbL W H i 8).length - j, ⟨0, id, Nat.zero_le _, rfl, ⟨rfl, rfl, rfl, rfl, rfl, rfl, rfl, rfl, rfl, rfl, trivial⟩, ⟨rfl, rfl, rfl, rfl, rfl, trivial⟩⟩, fun j hj => ?_⟩
          dsimp only at hj
          have hbr := foB_range (s := stW 256 W H f ds) (i := i) (j := j) w1
          conv => whnf
          (refine br_intro (fun h4 => ?_) (fun h4 => ?_) <;> (conv => whnf))
          · have h4 : j < (nbL W H i 8).length := by simp at h4; omega
            have hm : (nbL W H i 8).getD j RK.nb.z ∈ nbL W H i 8 := getD_mem h4 _
            obtain ⟨k, hk8, hO, hrk⟩ := nbL_ex hm
            obtain ⟨r1, r2, r3⟩ := nbC_lt w1 hO
            have hr : 0 ≤ ((nbL W H i 8).getD (j : Int).toNat RK.nb.z).1 ∧ ((nbL W H i 8).getD (j : Int).toNat RK.nb.z).1 < f.length := by
              show 0 ≤ ((nbL W H i 8).getD j RK.nb.z).1 ∧ ((nbL W H i 8).getD j RK.nb.z).1 < f.length
              rw [hrk]; exact ⟨r1, r2⟩
            have hfo := fo_succ (bwF f (stW 256 W H f ds) i) (-1) h4 RK.nb.z
            repeat (first
              | (refine ⟨⟨by kernel_rfl, by kernel_rfl⟩, ?_⟩; conv => whnf)
              | (refine And.intro (by first | omega | (simp; done) | (simp; omega)) ?_; conv => whnf)
              | (refine Or.inl (And.intro (by omega) ?_); conv => whnf))
            (refine br_intro (fun h6 => ?_) (fun h6 => ?_) <;> (conv => whnf))
            · have h6 : fcmp .eql .f32 (f.getD ((nbL W H i 8).getD j RK.nb.z).1.toNat 0) (f.getD i 0) = true := h6
              repeat (first
                | (refine ⟨⟨by kernel_rfl, by kernel_rfl⟩, ?_⟩; conv => whnf)
                | (refine And.intro (by first | omega | (simp; done) | (simp; omega)) ?_; conv => whnf)
                | (refine Or.inl (And.intro (by omega) ?_); conv => whnf))
              (refine br_intro (fun h7 => ?_) (fun h7 => ?_) <;> (conv => whnf))
              · have h7 : decide (fo (bwF f (stW 256 W H f ds) i) (-1) (nbL W H i 8) j < 0) = true := h7
                rw [bwF_neg h6 (of_decide_eq_true h7)] at hfo
                repeat (first
                  | (refine ⟨⟨by kernel_rfl, by kernel_rfl⟩, ?_⟩; conv => whnf)
                  | (refine And.intro (by first | omega | (simp; done) | (simp; omega)) ?_; conv => whnf)
                  | (refine Or.inl (And.intro (by omega) ?_); conv => whnf)
                  | (refine br_intro (fun h => by exfalso; first | (simp at h; done) | (simp at h; omega) | omega) (fun _ => ?_); conv => whnf)
                  | (refine br_intro (fun _ => ?_) (fun h => by exfalso; first | (simp at h; done) | (simp at h; omega) | omega); conv => whnf))
                refine ⟨j + 1, id, ⟨h4, by dsimp only; omega⟩, rfl, ⟨rfl, rfl, rfl, rfl, congrArg (AV.int .i64) hfo.symm, rfl, rfl, rfl, rfl, rfl, trivial⟩, ⟨rfl, rfl, rfl, rfl, rfl, trivial⟩⟩
              · have h7 : decide (fo (bwF f (stW 256 W H f ds) i) (-1) (nbL W H i 8) j < 0) = false := h7
                have h7 := of_decide_eq_false h7
                repeat (first
                  | (refine ⟨⟨by kernel_rfl, by kernel_rfl⟩, ?_⟩; conv => whnf)
                  | (refine And.intro (by first | omega | (simp; done) | (simp; omega)) ?_; conv => whnf)
                  | (refine Or.inl (And.intro (by omega) ?_); conv => whnf))
                (refine br_intro (fun h8 => ?_) (fun h8 => ?_) <;> (conv => whnf))
                · have h8 : decide ((stW 256 W H f ds).getD ((nbL W H i 8).getD j RK.nb.z).1.toNat 0 < (stW 256 W H f ds).getD (fo (bwF f (stW 256 W H f ds) i) (-1) (nbL W H i 8) j).toNat 0) = true := h8
                  rw [bwF_lt h6 (of_decide_eq_true h8)] at hfo
                  repeat (first
                    | (refine ⟨⟨by kernel_rfl, by kernel_rfl⟩, ?_⟩; conv => whnf)
                    | (refine And.intro (by first | omega | (simp; done) | (simp; omega)) ?_; conv => whnf)
                    | (refine Or.inl (And.intro (by omega) ?_); conv => whnf)
                    | (refine br_intro (fun h => by exfalso; first | (simp at h; done) | (simp at h; omega) | omega) (fun _ => ?_); conv => whnf)
                    | (refine br_intro (fun _ => ?_) (fun h => by exfalso; first | (simp at h; done) | (simp at h; omega) | omega); conv => whnf))
                  refine ⟨j + 1, id, ⟨h4, by dsimp only; omega⟩, rfl, ⟨rfl, rfl, rfl, rfl, congrArg (AV.int .i64) hfo.symm, rfl, rfl, rfl, rfl, rfl, trivial⟩, ⟨rfl, rfl, rfl, rfl, rfl, trivial⟩⟩
                · have h8 : decide ((stW 256 W H f ds).getD ((nbL W H i 8).getD j RK.nb.z).1.toNat 0 < (stW 256 W H f ds).getD (fo (bwF f (stW 256 W H f ds) i) (-1) (nbL W H i 8) j).toNat 0) = false := h8
                  rw [bwF_ge h7 (of_decide_eq_false h8)] at hfo
                  repeat (first
                    | (refine ⟨⟨by kernel_rfl, by kernel_rfl⟩, ?_⟩; conv => whnf)
                    | (refine And.intro (by first | omega | (simp; done) | (simp; omega)) ?_; conv => whnf)
                    | (refine Or.inl (And.intro (by omega) ?_); conv => whnf)
                    | (refine br_intro (fun h => by exfalso; first | (simp at h; done) | (simp at h; omega) | omega) (fun _ => ?_); conv => whnf)
                    | (refine br_intro (fun _ => ?_) (fun h => by exfalso; first | (simp at h; done) | (simp at h; omega) | omega); conv => whnf))
                  refine ⟨j + 1, id, ⟨h4, by dsimp only; omega⟩, rfl, ⟨rfl, rfl, rfl, rfl, congrArg (AV.int .i64) hfo.symm, rfl, rfl, rfl, rfl, rfl, trivial⟩, ⟨rfl, rfl, rfl, rfl, rfl, trivial⟩⟩
            · have h6 : fcmp .eql .f32 (f.getD ((nbL W H i 8).getD j RK.nb.z).1.toNat 0) (f.getD i 0) = false := h6
              rw [bwF_ne h6] at hfo
              repeat (first
                | (refine ⟨⟨by kernel_rfl, by kernel_rfl⟩, ?_⟩; conv => whnf)
                | (refine And.intro (by first | omega | (simp; done) | (simp; omega)) ?_; conv => whnf)
                | (refine Or.inl (And.intro (by omega) ?_); conv => whnf)
                | (refine br_intro (fun h => by exfalso; first | (simp at h; done) | (simp at h; omega) | omega) (fun _ => ?_); conv => whnf)
                | (refine br_intro (fun _ => ?_) (fun h => by exfalso; first | (simp at h; done) | (simp at h; omega) | omega); conv => whnf))
              refine ⟨j + 1, id, ⟨h4, by dsimp only; omega⟩, rfl, ⟨rfl, rfl, rfl, rfl, congrArg (AV.int .i64) hfo.symm, rfl, rfl, rfl, rfl, rfl, trivial⟩, ⟨rfl, rfl, rfl, rfl, rfl, trivial⟩⟩
          · have h4 : j = (nbL W H i 8).length := by simp at h4; omega
            subst h4
            have e : fo (bwF f (stW 256 W H f ds) i) (-1) (nbL W H i 8) (nbL W H i 8).length = rwF 256 W H f ds i := by rw [fo_all, rwF_no h2]; rfl
            repeat (first
              | (refine ⟨⟨by kernel_rfl, by kernel_rfl⟩, ?_⟩; conv => whnf)
              | (refine And.intro (by first | omega | (simp; done) | (simp; omega)) ?_; conv => whnf)
              | (refine Or.inl (And.intro (by omega) ?_); conv => whnf))
            refine ⟨i + 1, id, ⟨h, by dsimp only; omega⟩, rfl, ⟨rfl, rfl, rfl, rfl, rfl, trivial⟩, ⟨rfl, rfl, congrArg (fun x => KS.live (Blk.tab (.int .i64) ((wrN ds (rwF 256 W H f ds) i).set i x))) e, rfl, trivial⟩⟩
      · have h : i = ds.length := by simp at h; omega
        subst h
        repeat (first
          | (refine ⟨⟨by kernel_rfl, by kernel_rfl⟩, ?_⟩; conv => whnf)
          | (refine And.intro (by first | omega | (simp; done) | (simp; omega)) ?_; conv => whnf)
          | (refine Or.inl (And.intro (by omega) ?_); conv => whnf))
        all_goals (try (conv => whnf))
        all_goals (repeat' (first | exact True.intro | (refine And.intro ?_ ?_ <;> (conv => whnf))))
        all_goals (first | rfl | (simp_all []; done) | (simp only [cond_true, cond_false, Bool.and_true, Bool.true_and, Bool.and_false, Bool.false_and]; rfl) | (simp_all []; omega))

theorem lawRunWays (W H : Int) (xs : List Nat) (_ : (IntKind.i64.min ≤ W ∧ W ≤ IntKind.i64.max) ∧ IntKind.i64.min ≤ H ∧ H ≤ IntKind.i64.max) (hn : xs.length < 2 ^ 63) (h32 : ∀ y ∈ xs, y < 2 ^ 32) : Does Try.prog 3 [.agg [.int .i64 W, .int .i64 H, .sli .f32 xs .undef]] (.bool true) := by
  by_cases hl : xs.length ≤ 1048576
  · have h3 := rwO_len W H xs
    refine Does.of_awp (X := cx 96) Try.func3 rfl (by kernel_rfl) rfl (by simp [cx]) [] rfl ?_
    conv => whnf
    repeat (first
      | (refine ⟨⟨by kernel_rfl, by kernel_rfl⟩, ?_⟩; conv => whnf)
      | (refine And.intro (by first | omega | (simp; done) | (simp; omega)) ?_; conv => whnf)
      | (refine Or.inl (And.intro (by omega) ?_); conv => whnf)
      | (refine br_intro (fun h => by exfalso; first | (simp at h; done) | (simp at h; omega) | omega) (fun _ => ?_); conv => whnf)
      | (refine br_intro (fun _ => ?_) (fun h => by exfalso; first | (simp at h; done) | (simp at h; omega) | omega); conv => whnf)
      | (refine Exists.intro _ (And.intro (lSzHill (by first | omega | (simp; done) | (simp; omega)) (by first | omega | (simp; done) | (simp; omega))) ?_); conv => whnf)
      | (refine Exists.intro _ (And.intro (lToHill (by first | omega | (simp; done) | (simp; omega))) ?_); conv => whnf)
      | (refine Exists.intro _ (And.intro (sRunWays h32 (by first | omega | (simp; done) | (simp; omega))) ?_); conv => whnf)
      | (refine Exists.intro _ (And.intro (iRunWays h32 (by first | omega | (simp; done) | (simp; omega))) ?_); conv => whnf)
      | (refine Exists.intro _ (And.intro (lEqHill (by first | omega | (simp; done) | (simp; omega))) ?_); conv => whnf)
      | (refine Exists.intro _ (And.intro (lEqI (by first | omega | (simp; done) | (simp; omega))) ?_); conv => whnf)
      | (refine Exists.intro _ (Exists.intro _ (And.intro (And.intro (lMarkHill (by first | omega | (simp; done) | (simp; omega)) (by first | omega | (simp; done) | (simp; omega)) (by first | omega | (simp; done) | (simp; omega))) (by simp)) ?_)); conv => whnf)
      | (refine Exists.intro _ (Exists.intro _ (And.intro (And.intro (lMarkI (by first | omega | (simp; done) | (simp; omega)) (by first | omega | (simp; done) | (simp; omega)) (by first | omega | (simp; done) | (simp; omega))) (by simp)) ?_)); conv => whnf)
      | (refine Exists.intro _ (And.intro (lHeldI (by first | omega | (simp; done) | (simp; omega)) (by first | omega | (simp; done) | (simp; omega)) (by first | omega | (simp; done) | (simp; omega))) ?_); conv => whnf)
      | (refine Exists.intro _ (And.intro (lHeldHill (by first | omega | (simp; done) | (simp; omega)) (by first | omega | (simp; done) | (simp; omega)) (by first | omega | (simp; done) | (simp; omega))) ?_); conv => whnf))
  · refine Does.of_awp (X := cx 96) Try.func3 rfl (by kernel_rfl) rfl (by simp [cx]) [] rfl ?_
    conv => whnf
    repeat (first
      | (refine ⟨⟨by kernel_rfl, by kernel_rfl⟩, ?_⟩; conv => whnf)
      | (refine And.intro (by first | omega | (simp; done) | (simp; omega)) ?_; conv => whnf)
      | (refine Or.inl (And.intro (by omega) ?_); conv => whnf)
      | (refine br_intro (fun h => by exfalso; first | (simp at h; done) | (simp at h; omega) | omega) (fun _ => ?_); conv => whnf)
      | (refine br_intro (fun _ => ?_) (fun h => by exfalso; first | (simp at h; done) | (simp at h; omega) | omega); conv => whnf)
      | (refine Exists.intro _ (And.intro (lSzHill' (by first | omega | (simp; done) | (simp; omega)) (by first | omega | (simp; done) | (simp; omega)) (by first | omega | (simp; done) | (simp; omega))) ?_); conv => whnf))

end Go.Proofs.Ytngmlbeafdaolaa
