/- What each function of this seat does (Wt1). Printed from templates of this seat's own. -/
import Derived.Test.YtngmlbeafdaolaaWo3
import Derived.Test.YtngmlbeafdaolaaOrd
import Derived.Test.YtngmlbeafdaolaaCat
namespace Go.Proofs.Ytngmlbeafdaolaa
open Go.Ax Go.Bx
set_option maxRecDepth 8000
set_option linter.unusedSimpArgs false
set_option linter.unusedVariables false
/-! What gathers along ways: each cell's own, and what the cells that lead to it have. -/
/-- What the first m of the cells that lead to c have. -/
def gaC (ds : List Int) (v : Nat → Int) (c : Int) : Nat → Int
  | 0 => 0
  | m + 1 => gaC ds v c m + if ds.getD m 0 = c then v m else 0
/-- What the first m of the cells have that lead on; that lead nowhere. -/
def gaOn (ds : List Int) (v : Nat → Int) : Nat → Int
  | 0 => 0
  | m + 1 => gaOn ds v m + if 0 ≤ ds.getD m 0 then v m else 0
def gaEnd (ds : List Int) (v : Nat → Int) : Nat → Int
  | 0 => 0
  | m + 1 => gaEnd ds v m + if ds.getD m 0 < 0 then v m else 0
theorem sI_add (f g : Nat → Int) : ∀ n, sI (fun i => f i + g i) n = sI f n + sI g n
  | 0 => rfl
  | n + 1 => by rw [sI, sI, sI, sI_add f g n]; omega
theorem sI_one {a : Nat} {x : Int} : ∀ n, sI (fun c => if (a : Int) = (c : Nat) then x else 0) n = if a < n then x else 0
  | 0 => by simp [sI]
  | n + 1 => by
    rw [sI, sI_one n]
    by_cases h : a < n
    · rw [if_pos h, if_neg (by omega), if_pos (by omega)]; omega
    · by_cases e : a = n
      · subst e
        rw [if_neg h, if_pos rfl, if_pos (by omega)]; omega
      · rw [if_neg h, if_neg (by omega), if_neg (by omega)]; omega
theorem ga_on_end (ds : List Int) (v : Nat → Int) : ∀ m, gaOn ds v m + gaEnd ds v m = sI v m
  | 0 => rfl
  | m + 1 => by
    have := ga_on_end ds v m
    rw [gaOn, gaEnd, sI]
    by_cases h : 0 ≤ ds.getD m 0
    · rw [if_pos h, if_neg (by omega)]; omega
    · rw [if_neg h, if_pos (by omega)]; omega
theorem ga_swap {ds : List Int} {v : Nat → Int} {n : Nat} (h : ∀ i, i < n → ds.getD i 0 = -1 ∨ (0 ≤ ds.getD i 0 ∧ ds.getD i 0 < n)) : ∀ m, m ≤ n → sI (fun c => gaC ds v (c : Nat) m) n = gaOn ds v m
  | 0, _ => by
    have : ∀ k, sI (fun c => gaC ds v (c : Nat) 0) k = 0 := fun k => by
      induction k with
      | zero => rfl
      | succ k ih => rw [sI, ih]; rfl
    exact this n
  | m + 1, hm => by
    have ih := ga_swap (v := v) h m (by omega)
    have e : sI (fun c => gaC ds v (c : Nat) (m + 1)) n = sI (fun c => gaC ds v (c : Nat) m) n + sI (fun c => if ds.getD m 0 = ((c : Nat) : Int) then v m else 0) n := sI_add _ _ n
    rw [e, ih, gaOn]
    rcases h m (by omega) with g | ⟨g1, g2⟩
    · have z : ∀ k, sI (fun c => if ds.getD m 0 = ((c : Nat) : Int) then v m else 0) k = 0 := fun k => by
        induction k with
        | zero => rfl
        | succ k ih => rw [sI, ih, if_neg (by omega)]; rfl
      rw [z n, if_neg (by omega)]
    · obtain ⟨a, ha⟩ : ∃ a : Nat, ds.getD m 0 = (a : Int) := ⟨(ds.getD m 0).toNat, by omega⟩
      rw [ha, sI_one n, if_pos (by omega), if_pos (by omega)]
/-- What all cells have of their own comes together where ways end. -/
theorem ga_total {ds : List Int} {n : Nat} {T r : Nat → Int} (h : ∀ i, i < n → ds.getD i 0 = -1 ∨ (0 ≤ ds.getD i 0 ∧ ds.getD i 0 < n)) (hT : ∀ c, c < n → T c = r c + gaC ds T (c : Nat) n) : gaEnd ds T n = sI r n := by
  have e1 := ga_swap (v := T) h n (Nat.le_refl _)
  have e2 := ga_on_end ds T n
  have e3 : sI T n = sI r n + sI (fun c => gaC ds T (c : Nat) n) n := by
    rw [← sI_add]
    exact sI_congr n hT
  omega
theorem gaC_nn {ds : List Int} {v : Nat → Int} {c : Int} : ∀ m, (∀ k, k < m → 0 ≤ v k) → 0 ≤ gaC ds v c m
  | 0, _ => Int.le_refl _
  | m + 1, h => by
    have := gaC_nn (ds := ds) (c := c) m fun k hk => h k (by omega)
    have := h m (by omega)
    rw [gaC]
    split <;> omega
theorem gaC_le {ds : List Int} {v : Nat → Int} {c : Int} {k : Nat} : ∀ m, k < m → ds.getD k 0 = c → (∀ k, k < m → 0 ≤ v k) → v k ≤ gaC ds v c m
  | m + 1, hk, e, h => by
    rw [gaC]
    by_cases hkm : k = m
    · subst hkm
      have := gaC_nn (ds := ds) (c := c) k fun j hj => h j (by omega)
      rw [if_pos e]; omega
    · have := gaC_le m (by omega) e fun j hj => h j (by omega)
      have := h m (by omega)
      split <;> omega
theorem gaC_none {ds : List Int} {v : Nat → Int} {c : Int} : ∀ m, (∀ k, k < m → ds.getD k 0 ≠ c) → gaC ds v c m = 0
  | 0, _ => rfl
  | m + 1, h => by rw [gaC, gaC_none m fun k hk => h k (by omega), if_neg (h m (by omega))]; rfl
/-- By lateness: what is shown of a cell when it is shown of all that lead to it. -/
theorem late_ind {W H : Int} {ds : List Int} (hW : Wys W H ds) {P : Nat → Prop} (h : ∀ c, c < ds.length → (∀ k, k < ds.length → ds.getD k 0 = (c : Nat) → P k) → P c) : ∀ c, c < ds.length → P c := by
  have : ∀ (m c : Nat), c < ds.length → lat ds c < m → P c := by
    intro m
    induction m with
    | zero => intro c _ h; omega
    | succ m ih =>
      intro c hc hm
      refine h c hc fun k hk e => ?_
      have := lat_up hW hk hc e
      exact ih k hk (by omega)
  exact fun c hc => this _ c hc (Nat.lt_succ_self _)

/-! Paths, one cell after another. -/
theorem wyCur_next {ds : List Int} {i : Nat} (h : 0 ≤ ds.getD i 0) : ∀ t, wyCur ds (i : Int) (t + 1) = wyCur ds (ds.getD i 0) t
  | 0 => by
    rw [wyCur_pos (show 0 ≤ wyCur ds (i : Int) 0 from by show (0 : Int) ≤ i; omega)]
    show ds.getD (i : Int).toNat 0 = ds.getD i 0
    rw [Int.toNat_natCast]
  | t + 1 => by
    rw [wyCur, wyCur_next h t]
    rw [wyCur]
theorem paM_next {W H : Int} {ds : List Int} (hW : Wys W H ds) {i : Nat} (hi : i < ds.length) (h : 0 ≤ ds.getD i 0) : paM ds (i : Int) = paM ds (ds.getD i 0) + 1 := by
  have hl := hW.2.1
  have hr := wyBe_range hW.1.1 hW.2.2.2.1 hi
  obtain ⟨⟨a1, a2⟩, a3, _, _⟩ := paM_spec hW (c := (i : Int)) (by omega)
  obtain ⟨⟨b1, b2⟩, b3, _, _⟩ := paM_spec hW (c := ds.getD i 0) (by omega)
  obtain ⟨m, hm⟩ : ∃ m, paM ds (i : Int) = m + 1 := ⟨paM ds (i : Int) - 1, by omega⟩
  rw [hm] at a1 a2 ⊢
  rw [wyCur_next h] at a1
  have e : paM ds (ds.getD i 0) = m := by
    rcases Nat.lt_trichotomy (paM ds (ds.getD i 0)) m with g | g | g
    · have := a2 (paM ds (ds.getD i 0) + 1) (by omega)
      rw [wyCur_next h] at this
      omega
    · exact g
    · have := b2 m g
      omega
  rw [e]
theorem paM_end {W H : Int} {ds : List Int} (hW : Wys W H ds) {i : Nat} (hi : i < ds.length) (h : ds.getD i 0 < 0) : paM ds (i : Int) = 1 := by
  have hl := hW.2.1
  obtain ⟨⟨a1, a2⟩, a3, _, _⟩ := paM_spec hW (c := (i : Int)) (by omega)
  have e1 : wyCur ds (i : Int) 1 = ds.getD i 0 := by
    rw [wyCur_pos (show 0 ≤ wyCur ds (i : Int) 0 from by show (0 : Int) ≤ i; omega)]
    show ds.getD (i : Int).toNat 0 = ds.getD i 0
    rw [Int.toNat_natCast]
  rcases Nat.lt_or_ge 1 (paM ds (i : Int)) with g | g
  · have := a2 1 g
    omega
  · omega
/-- How often a path passes a cell. -/
noncomputable def onP (ds : List Int) (i c : Int) : Nat → Int
  | 0 => 0
  | t + 1 => onP ds i c t + if wyCur ds i t = c then 1 else 0
theorem onP_next {ds : List Int} {i : Nat} {c : Int} (h : 0 ≤ ds.getD i 0) : ∀ t, onP ds (i : Int) c (t + 1) = (if (i : Int) = c then 1 else 0) + onP ds (ds.getD i 0) c t
  | 0 => by
    rw [onP, onP, onP]
    show 0 + (if (i : Int) = c then 1 else 0) = _
    omega
  | t + 1 => by
    rw [onP, onP_next h t, wyCur_next h, onP]
    omega
noncomputable def onC (ds : List Int) (i c : Int) : Int := onP ds i c (paM ds i)
theorem onC_next {W H : Int} {ds : List Int} (hW : Wys W H ds) {i : Nat} {c : Int} (hi : i < ds.length) (h : 0 ≤ ds.getD i 0) : onC ds (i : Int) c = (if (i : Int) = c then 1 else 0) + onC ds (ds.getD i 0) c := by
  unfold onC
  rw [paM_next hW hi h]
  exact onP_next h _
theorem onC_end {W H : Int} {ds : List Int} (hW : Wys W H ds) {i : Nat} {c : Int} (hi : i < ds.length) (h : ds.getD i 0 < 0) : onC ds (i : Int) c = if (i : Int) = c then 1 else 0 := by
  unfold onC
  rw [paM_end hW hi h, onP, onP]
  show 0 + (if (i : Int) = c then 1 else 0) = _
  omega

theorem gaC_add (ds : List Int) (u v : Nat → Int) (c : Int) : ∀ m, gaC ds (fun k => u k + v k) c m = gaC ds u c m + gaC ds v c m
  | 0 => rfl
  | m + 1 => by
    rw [gaC, gaC, gaC, gaC_add ds u v c m]
    split <;> omega
theorem gaC_congr {ds : List Int} {u v : Nat → Int} {c : Int} : ∀ m, (∀ k, k < m → u k = v k) → gaC ds u c m = gaC ds v c m
  | 0, _ => rfl
  | m + 1, h => by rw [gaC, gaC, gaC_congr m fun k hk => h k (by omega), h m (by omega)]
theorem gaC_one (ds : List Int) (i : Nat) (c : Int) : ∀ m, gaC ds (fun k => if (i : Int) = (k : Nat) then 1 else 0) c m = if i < m ∧ ds.getD i 0 = c then 1 else 0
  | 0 => by simp [gaC]
  | m + 1 => by
    rw [gaC, gaC_one ds i c m]
    rcases Nat.lt_trichotomy i m with h | h | h
    · have h1 : ¬ ((i : Int) = (m : Int)) := by omega
      have h2 : i < m + 1 := by omega
      simp [h1, h, h2]
      try (intro g; omega)
    · subst h
      simp
    · have h1 : ¬ ((i : Int) = (m : Int)) := by omega
      have h2 : ¬ (i < m + 1) := by omega
      have h3 : ¬ (i < m) := by omega
      simp [h1, h2, h3]
      try (intro g; omega)
/-- A path comes to a cell from its start or from one of the cells that lead there. -/
theorem onC_rec {W H : Int} {ds : List Int} (hW : Wys W H ds) {c : Int} (hc : 0 ≤ c) : ∀ (m i : Nat), i < ds.length → paM ds (i : Int) ≤ m → onC ds (i : Int) c = (if (i : Int) = c then 1 else 0) + gaC ds (fun k => onC ds (i : Int) (k : Nat)) c ds.length
  | 0, i, hi, hm => by
    have hl := hW.2.1
    have := (paM_spec hW (c := (i : Int)) (by omega)).2.1
    omega
  | m + 1, i, hi, hm => by
    have hr := wyBe_range hW.1.1 hW.2.2.2.1 hi
    have hl := hW.2.1
    by_cases h : 0 ≤ ds.getD i 0
    · obtain ⟨j, hj⟩ : ∃ j : Nat, ds.getD i 0 = (j : Int) := ⟨(ds.getD i 0).toNat, by omega⟩
      have hj' : j < ds.length := by omega
      have hp := paM_next hW hi h
      rw [hj] at hp
      have ih := onC_rec hW hc m j hj' (by omega)
      have e1 : gaC ds (fun k => onC ds (i : Int) (k : Nat)) c ds.length = gaC ds (fun k => (if (i : Int) = (k : Nat) then 1 else 0) + onC ds (j : Int) (k : Nat)) c ds.length := gaC_congr _ fun k _ => by
        try dsimp only
        rw [onC_next hW hi h, hj]
      rw [onC_next hW hi h, hj, e1, gaC_add, gaC_one, ih, hj]
      by_cases e : (j : Int) = c
      · simp [e, hi]
      · simp [e]
    · have h : ds.getD i 0 < 0 := by omega
      have e1 : gaC ds (fun k => onC ds (i : Int) (k : Nat)) c ds.length = gaC ds (fun k => if (i : Int) = (k : Nat) then 1 else 0) c ds.length := gaC_congr _ fun k _ => by
        try dsimp only
        rw [onC_end hW hi h]
      rw [onC_end hW hi h, e1, gaC_one, if_neg (show ¬ (i < ds.length ∧ ds.getD i 0 = c) from fun g => by omega), Int.add_zero]
/-- How many cells' paths pass a cell. -/
noncomputable def ctT (ds : List Int) (c : Nat) : Int := sI (fun i => onC ds (i : Int) (c : Int)) ds.length
theorem gaC_sum (ds : List Int) (u : Nat → Nat → Int) (c : Int) (m : Nat) : ∀ n, gaC ds (fun k => sI (fun i => u i k) n) c m = sI (fun i => gaC ds (u i) c m) n
  | 0 => by
    induction m with
    | zero => rfl
    | succ m ih =>
      rw [gaC, ih]
      simp only [sI]
      split <;> rfl
  | n + 1 => by
    rw [sI, ← gaC_sum ds u c m n, ← gaC_add]
    rfl
theorem ctT_rec {W H : Int} {ds : List Int} (hW : Wys W H ds) {c : Nat} (hc : c < ds.length) : ctT ds c = 1 + gaC ds (ctT ds) (c : Nat) ds.length := by
  unfold ctT
  rw [gaC_sum ds (fun i k => onC ds (i : Int) (k : Int))]
  have e : sI (fun i => onC ds (i : Int) (c : Int)) ds.length = sI (fun i => (if (c : Int) = (i : Nat) then 1 else 0) + gaC ds (fun k => onC ds (i : Int) (k : Nat)) (c : Nat) ds.length) ds.length := sI_congr _ fun i hi => by
    rw [onC_rec hW (c := (c : Int)) (by omega) _ i hi (Nat.le_refl _)]
    by_cases h : (i : Int) = c
    · rw [if_pos h, if_pos h.symm]
    · rw [if_neg h, if_neg (fun g => h g.symm)]
  rw [e, sI_add, sI_one, if_pos hc]

/-! What is counted along ways is how many cells' paths pass a cell. -/
theorem ctU_at {l : List Int} {x : Int} {c : Nat} (h : x.toNat < l.length) : (ctU l x).getD c 0 = if c = x.toNat then l.getD x.toNat 0 + 1 else l.getD c 0 := by
  unfold ctU
  exact getD_setG _ _ _ _ h
theorem fold_ctU {ds : List Int} {i : Int} {c n : Nat} : ∀ (m : Nat) (l : List Int), l.length = n → c < n → (∀ t, t < m → 0 ≤ wyCur ds i t ∧ wyCur ds i t < n) → (((tabN (wyCur ds i) m).foldl ctU l).length = n ∧ ((tabN (wyCur ds i) m).foldl ctU l).getD c 0 = l.getD c 0 + onP ds i (c : Int) m)
  | 0, l, hl, hc, h => by
    refine ⟨by rw [tabN]; exact hl, ?_⟩
    rw [tabN, onP]
    show l.getD c 0 = _
    omega
  | m + 1, l, hl, hc, h => by
    obtain ⟨e1, e2⟩ := fold_ctU m l hl hc fun t ht => h t (by omega)
    have hm := h m (by omega)
    rw [tabN, List.foldl_append]
    show (ctU _ _).length = n ∧ (ctU _ _).getD c 0 = _
    refine ⟨by rw [ctU_len]; exact e1, ?_⟩
    rw [ctU_at (by omega), onP]
    by_cases e : c = (wyCur ds i m).toNat
    · have e' : wyCur ds i m = (c : Int) := by omega
      rw [if_pos e, if_pos e', ← e, e2]
      omega
    · have e' : ¬ (wyCur ds i m = (c : Int)) := by omega
      rw [if_neg e, if_neg e', e2]
      omega
theorem caS_at {W H : Int} {ds : List Int} (hW : Wys W H ds) {c : Nat} (hc : c < ds.length) : ∀ m, m ≤ ds.length → (caS ds m).getD c 0 = sI (fun i => onC ds (i : Int) (c : Int)) m
  | 0, _ => by
    rw [caS, sI]
    rw [List.getD_eq_getElem?_getD, List.getElem?_replicate]
    split <;> rfl
  | m + 1, hm => by
    have hl := hW.2.1
    have ih := caS_at hW hc m (by omega)
    obtain ⟨⟨p1, p2⟩, p3, p4, p5⟩ := paM_spec hW (c := (m : Int)) (by omega)
    have hf := (fold_ctU (ds := ds) (i := (m : Int)) (c := c) (n := ds.length) (paM ds (m : Int)) (caS ds m) (caS_len ds m) hc fun t ht => ⟨p2 t ht, by have := (p5 t).2; omega⟩).2
    rw [caS, paL, hf, ih, sI]
    rfl
theorem caS_ct {W H : Int} {ds : List Int} (hW : Wys W H ds) {c : Nat} (hc : c < ds.length) : (caS ds ds.length).getD c 0 = ctT ds c := caS_at hW hc _ (Nat.le_refl _)
/-- Counts grow along ways, and a cell to which none leads counts itself alone. -/
theorem ctT_nn {W H : Int} {ds : List Int} (hW : Wys W H ds) {c : Nat} (hc : c < ds.length) : 0 ≤ ctT ds c := by
  rw [← caS_ct hW hc]
  exact (caS_bnd hW ds.length (Nat.le_refl _) c).1

/-! Counts grow along ways; a cell which counts one has none leading to it. -/
theorem ctT_up {W H : Int} {ds : List Int} (hW : Wys W H ds) {k c : Nat} (hk : k < ds.length) (hc : c < ds.length) (e : ds.getD k 0 = (c : Int)) : ctT ds k + 1 ≤ ctT ds c := by
  have h := gaC_le (ds := ds) (v := ctT ds) (c := (c : Int)) ds.length hk e fun j hj => ctT_nn hW hj
  have := ctT_rec hW hc
  omega
theorem ctT_pos {W H : Int} {ds : List Int} (hW : Wys W H ds) {c : Nat} (hc : c < ds.length) : 1 ≤ ctT ds c := by
  have h := gaC_nn (ds := ds) (v := ctT ds) (c := (c : Int)) ds.length fun j hj => ctT_nn hW hj
  have := ctT_rec hW hc
  omega
theorem ctT_lone {W H : Int} {ds : List Int} (hW : Wys W H ds) {c : Nat} (hc : c < ds.length) (h1 : ctT ds c = 1) : ∀ k, k < ds.length → ds.getD k 0 ≠ (c : Int) := fun k hk e => by
  have := ctT_up hW hk hc e
  have := ctT_pos hW hk
  omega

/-! Orders never fall along ways; a cell to which none leads is of order one. -/
theorem orF_ge (p : Int × Int) (v : Int) : p.1 ≤ (orF p v).1 ∧ v ≤ (orF p v).1 := by
  unfold orF
  by_cases h : v > p.1
  · rw [decide_eq_true h, cond_true]
    exact ⟨by show p.1 ≤ v; omega, Int.le_refl _⟩
  · rw [decide_eq_false h, cond_false]
    cases v == p.1
    · rw [cond_false]; omega
    · rw [cond_true]; show p.1 ≤ p.1 ∧ v ≤ p.1; omega
theorem orZ_ge (p : Int × Int) : p.1 ≤ orZ p := by
  unfold orZ
  cases (p.1 == 0 || decide (p.2 ≥ 2))
  · rw [cond_false]; omega
  · rw [cond_true]; omega
theorem chF_ge {ds : List Int} {v : Nat → Int} {c : Int} {k : Nat} {b : Int × Int} : ∀ m, k < m → ds.getD k 0 = c → v k ≤ (chF ds orF b v c m).1
  | m + 1, hk, e => by
    rw [chF]
    by_cases h : k = m
    · subst h
      rw [show (ds.getD k 0 == c) = true from by rw [e]; exact beq_self_eq_true c, cond_true]
      exact (orF_ge _ _).2
    · have ih := chF_ge (ds := ds) (v := v) (c := c) (b := b) m (by omega) e
      cases ds.getD m 0 == c
      · rw [cond_false]; exact ih
      · rw [cond_true]
        have := (orF_ge (chF ds orF b v c m) (v m)).1
        omega
theorem chF_none {ds : List Int} {v : Nat → Int} {c : Int} {b : Int × Int} : ∀ m, (∀ k, k < m → ds.getD k 0 ≠ c) → chF ds orF b v c m = b
  | 0, _ => rfl
  | m + 1, h => by
    rw [chF, chF_none m fun k hk => h k (by omega), show (ds.getD m 0 == c) = false from by simpa using h m (by omega), cond_false]
theorem orT_up {W H : Int} {ds : List Int} (hW : Wys W H ds) {k c : Nat} (hk : k < ds.length) (hc : c < ds.length) (e : ds.getD k 0 = (c : Int)) : orT ds k ≤ orT ds c := by
  rw [orT_step hW hc]
  exact Int.le_trans (chF_ge (v := orT ds) (b := (0, 0)) ds.length hk e) (orZ_ge _)
theorem orT_lone {W H : Int} {ds : List Int} (hW : Wys W H ds) {c : Nat} (hc : c < ds.length) (h : ∀ k, k < ds.length → ds.getD k 0 ≠ (c : Int)) : orT ds c = 1 := by
  rw [orT_step hW hc, chF_none _ h]
  rfl

end Go.Proofs.Ytngmlbeafdaolaa
