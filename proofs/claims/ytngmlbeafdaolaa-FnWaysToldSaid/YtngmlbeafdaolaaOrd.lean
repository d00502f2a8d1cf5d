/- What each function of this seat does (Ord). Printed from templates of this seat's own. -/
import Derived.Test.YtngmlbeafdaolaaPat
namespace Go.Proofs.Ytngmlbeafdaolaa
open Go.Ax Go.Bx
set_option maxRecDepth 8000
set_option linter.unusedSimpArgs false
set_option linter.unusedVariables false
theorem wyCur_shift {ds : List Int} {s : Int} {a b : Nat} (h : wyCur ds s a = wyCur ds s b) : ∀ t, wyCur ds s (a + t) = wyCur ds s (b + t)
  | 0 => h
  | t + 1 => by
    have := wyCur_shift h t
    show wyCur ds s (a + t + 1) = wyCur ds s (b + t + 1)
    rw [wyCur, wyCur, this]
theorem paM_le {W H c : Int} {ds : List Int} (hW : Wys W H ds) (hc : 0 ≤ c ∧ c < W * H) : paM ds c ≤ ds.length := by
  obtain ⟨⟨p1, p2⟩, p3, p4, p5⟩ := paM_spec hW hc
  have hl := hW.2.1
  refine pig ds.length (paM ds c) (fun n => (wyCur ds c n).toNat) (fun i hi => ?_) (fun i j hi hj e => ?_)
  · have := p2 i hi
    have := (p5 i).2
    (try dsimp only); omega
  · have e : wyCur ds c i = wyCur ds c j := by
      have := p2 i hi
      have := p2 j hj
      (try dsimp only at e); omega
    have no : ∀ a b, a < b → b < paM ds c → wyCur ds c a = wyCur ds c b → False := fun a b hab hb he => by
      have h1 := wyCur_shift he (paM ds c - b)
      rw [show b + (paM ds c - b) = paM ds c by omega] at h1
      have := p2 (a + (paM ds c - b)) (by omega)
      omega
    rcases Nat.lt_trichotomy i j with h | h | h
    · exact (no i j h hj e).elim
    · exact h
    · exact (no j i h hi e.symm).elim
/-! How many cells lead to a cell. -/
def ltU (l : List Int) (p : List Int) (k : Nat) : List Int := l.set (p.getD k 0).toNat (if (k : Int) > l.getD (p.getD k 0).toNat 0 then (k : Int) else l.getD (p.getD k 0).toNat 0)
def ltP (l : List Int) (p : List Int) : Nat → List Int
  | 0 => l
  | k + 1 => ltU (ltP l p k) p k
noncomputable def ltS (ds : List Int) : Nat → List Int
  | 0 => List.replicate ds.length (0 : Int)
  | i + 1 => ltP (ltS ds i) (paL ds i) (paL ds i).length
@[simp] theorem ltU_len (l p : List Int) (k : Nat) : (ltU l p k).length = l.length := by simp [ltU]
@[simp] theorem ltP_len (l p : List Int) : ∀ k, (ltP l p k).length = l.length
  | 0 => rfl
  | k + 1 => by rw [ltP, ltU_len, ltP_len l p k]
@[simp] theorem ltS_len (ds : List Int) : ∀ i, (ltS ds i).length = ds.length
  | 0 => by simp [ltS]
  | i + 1 => by rw [ltS, ltP_len, ltS_len ds i]
theorem getD_setI (l : List Int) (i c : Nat) (x : Int) : (l.set i x).getD c 0 = if c = i ∧ i < l.length then x else l.getD c 0 := by
  rw [List.getD_eq_getElem?_getD, List.getD_eq_getElem?_getD]
  by_cases e : c = i
  · subst e
    by_cases h : c < l.length
    · rw [List.getElem?_set_self h, if_pos ⟨rfl, h⟩]; rfl
    · rw [List.set_eq_of_length_le (by omega), if_neg (fun h' => h h'.2)]
  · rw [List.getElem?_set_ne (fun h => e h.symm), if_neg (fun h => e h.1)]
theorem ltU_get (l p : List Int) (k c : Nat) : (ltU l p k).getD c 0 = if c = (p.getD k 0).toNat ∧ (p.getD k 0).toNat < l.length then (if (k : Int) > l.getD c 0 then (k : Int) else l.getD c 0) else l.getD c 0 := by
  rw [ltU, getD_setI]
  split
  · rename_i h; rw [h.1]
  · rfl
theorem ltU_mono (l p : List Int) (k c : Nat) : l.getD c 0 ≤ (ltU l p k).getD c 0 := by
  rw [ltU_get]; split
  · split <;> omega
  · omega
theorem ltU_hit (l p : List Int) (k : Nat) (h : (p.getD k 0).toNat < l.length) : (k : Int) ≤ (ltU l p k).getD (p.getD k 0).toNat 0 := by
  rw [ltU_get, if_pos ⟨rfl, h⟩]; split <;> omega
theorem ltP_mono (l p : List Int) (c : Nat) : ∀ k, l.getD c 0 ≤ (ltP l p k).getD c 0
  | 0 => Int.le_refl _
  | k + 1 => Int.le_trans (ltP_mono l p c k) (by rw [ltP]; exact ltU_mono _ _ _ _)
theorem ltP_hit (l p : List Int) : ∀ (k j : Nat), j < k → (p.getD j 0).toNat < l.length → (j : Int) ≤ (ltP l p k).getD (p.getD j 0).toNat 0
  | 0, _, h, _ => by omega
  | k + 1, j, h, hl => by
    rw [ltP]
    by_cases e : j = k
    · subst e; exact ltU_hit _ _ _ (by rw [ltP_len]; exact hl)
    · exact Int.le_trans (ltP_hit l p k j (by omega) hl) (ltU_mono _ _ _ _)
/-- What stands in a list of latenesses was seen on a path. -/
def LtI (ds l : List Int) : Prop := ∀ c, c < ds.length → 0 ≤ l.getD c 0 ∧ (l.getD c 0 = 0 ∨ ∃ s j : Nat, s < ds.length ∧ j < paM ds s ∧ wyCur ds s j = c ∧ l.getD c 0 = j)
theorem ltP_inv {W H : Int} {ds l : List Int} (hW : Wys W H ds) {s : Nat} (hs : s < ds.length) (h : LtI ds l) (hl : l.length = ds.length) : ∀ k, k ≤ (paL ds s).length → LtI ds (ltP l (paL ds s) k)
  | 0, _ => h
  | k + 1, hk => fun c hc => by
    have ih := ltP_inv hW hs h hl k (by omega) c hc
    rw [ltP, ltU_get]
    have hkm : k < paM ds s := by have := hk; rw [paL, tabN_len] at this; omega
    have hg : (paL ds s).getD k 0 = wyCur ds s k := by rw [paL, tabN_getD _ hkm]
    obtain ⟨⟨p1, p2⟩, p3, p4, p5⟩ := paM_spec hW (c := s) (by have := hW.2.1; omega)
    have h0 := p2 k hkm
    split
    · rename_i e
      split
      · exact ⟨by omega, .inr ⟨s, k, hs, hkm, by rw [hg] at e; omega, rfl⟩⟩
      · exact ih
    · exact ih
theorem ltS_inv {W H : Int} {ds : List Int} (hW : Wys W H ds) : ∀ i, i ≤ ds.length → LtI ds (ltS ds i)
  | 0, _ => fun c _ => by
    have : (ltS ds 0).getD c 0 = 0 := by
      rw [ltS, List.getD_eq_getElem?_getD, List.getElem?_replicate]; split <;> rfl
    rw [this]; exact ⟨Int.le_refl _, .inl rfl⟩
  | i + 1, hi => by
    rw [ltS]
    exact ltP_inv hW (by omega) (ltS_inv hW i (by omega)) (ltS_len _ _) _ (Nat.le_refl _)
theorem ltS_mono (ds : List Int) (c : Nat) (i : Nat) : ∀ m, (ltS ds i).getD c 0 ≤ (ltS ds (i + m)).getD c 0
  | 0 => Int.le_refl _
  | m + 1 => Int.le_trans (ltS_mono ds c i m) (by rw [← Nat.add_assoc, ltS]; exact ltP_mono _ _ _ _)
theorem ltS_hit {W H : Int} {ds : List Int} (hW : Wys W H ds) {s j : Nat} (hs : s < ds.length) (hj : j < paM ds s) : (j : Int) ≤ (ltS ds ds.length).getD (wyCur ds s j).toNat 0 := by
  have hl := hW.2.1
  obtain ⟨⟨p1, p2⟩, p3, p4, p5⟩ := paM_spec hW (c := s) (by omega)
  have hg : (paL ds s).getD j 0 = wyCur ds s j := by rw [paL, tabN_getD _ hj]
  have h1 := ltP_hit (ltS ds s) (paL ds s) (paL ds s).length j (by rw [paL, tabN_len]; exact hj) (by
    rw [hg, ltS_len]; have := p2 j hj; have := (p5 j).2; omega)
  rw [hg] at h1
  have h2 := ltS_mono ds (wyCur ds s j).toNat (s + 1) (ds.length - (s + 1))
  rw [show s + 1 + (ds.length - (s + 1)) = ds.length by omega] at h2
  exact Int.le_trans h1 h2
noncomputable def lat (ds : List Int) (c : Nat) : Nat := ((ltS ds ds.length).getD c 0).toNat
theorem lat_ex {W H : Int} {ds : List Int} (hW : Wys W H ds) {c : Nat} (hc : c < ds.length) : ∃ s j : Nat, s < ds.length ∧ j < paM ds s ∧ wyCur ds s j = c ∧ lat ds c = j := by
  obtain ⟨h0, h1⟩ := ltS_inv hW _ (Nat.le_refl _) c hc
  have hl := hW.2.1
  rcases h1 with h1 | ⟨s, j, h2, h3, h4, h5⟩
  · obtain ⟨_, p3, _, _⟩ := paM_spec hW (c := c) (by omega)
    exact ⟨c, 0, hc, by omega, rfl, by rw [lat, h1]; rfl⟩
  · exact ⟨s, j, h2, h3, h4, by rw [lat, h5]; rfl⟩
theorem lat_cast {W H : Int} {ds : List Int} (hW : Wys W H ds) {c : Nat} (hc : c < ds.length) : (ltS ds ds.length).getD c 0 = lat ds c := by
  obtain ⟨h0, _⟩ := ltS_inv hW _ (Nat.le_refl _) c hc
  rw [lat]; omega
theorem lat_lt {W H : Int} {ds : List Int} (hW : Wys W H ds) {c : Nat} (hc : c < ds.length) : lat ds c < ds.length := by
  obtain ⟨s, j, h1, h2, h3, h4⟩ := lat_ex hW hc
  have hl := hW.2.1
  have := paM_le hW (c := s) (by omega)
  omega
theorem lat_up {W H : Int} {ds : List Int} (hW : Wys W H ds) {k c : Nat} (hk : k < ds.length) (hc : c < ds.length) (e : ds.getD k 0 = c) : lat ds k < lat ds c := by
  obtain ⟨s, j, h1, h2, h3, h4⟩ := lat_ex hW hk
  have hl := hW.2.1
  obtain ⟨⟨p1, p2⟩, p3, p4, p5⟩ := paM_spec hW (c := s) (by omega)
  have h5 : wyCur ds s (j + 1) = c := by rw [wyCur_pos (by omega), h3]; exact e
  have h6 : j + 1 < paM ds s := by
    rcases Nat.lt_or_ge (j + 1) (paM ds s) with h | h
    · exact h
    · have : j + 1 = paM ds s := by omega
      rw [← this] at p1; omega
  have h7 := ltS_hit hW h1 h6
  rw [h5] at h7
  have := lat_cast hW hc
  rw [show ((c : Int)).toNat = c from rfl] at h7
  omega
/-! A table filled by lateness. -/
section
variable {α β : Type} (ds : List Int) (d : α) (ini : α → β) (st : β → α → β) (fn : β → α) (x0 : List α)
def chF (b : β) (v : Nat → α) (c : Int) : Nat → β
  | 0 => b
  | k + 1 => bif ds.getD k 0 == c then st (chF b v c k) (v k) else chF b v c k
theorem chF_congr {b : β} {v v' : Nat → α} {c : Int} : ∀ {m : Nat}, (∀ k, k < m → ds.getD k 0 = c → v k = v' k) → chF ds st b v c m = chF ds st b v' c m
  | 0, _ => rfl
  | m + 1, h => by
    have ih := chF_congr (b := b) (v := v) (v' := v') (c := c) (m := m) fun k hk => h k (by omega)
    rw [chF, chF, ih]
    cases e : (ds.getD m 0 == c)
    · rfl
    · rw [h m (by omega) (by simpa using e)]
theorem chF_yes {b : β} {v : Nat → α} {c : Int} {k : Nat} (h : ds.getD k 0 = c) : chF ds st b v c (k + 1) = st (chF ds st b v c k) (v k) := by
  rw [chF, beq_iff_eq.2 h, cond_true]
theorem chF_no {b : β} {v : Nat → α} {c : Int} {k : Nat} (h : ds.getD k 0 ≠ c) : chF ds st b v c (k + 1) = chF ds st b v c k := by
  rw [chF, beq_eq_false_iff_ne.2 h, cond_false]
def cmb (l : List α) (i : Nat) : α := fn (chF ds st (ini (l.getD i d)) (fun k => l.getD k d) i ds.length)
noncomputable def fiI (l : List α) (n : Nat) : Nat → List α
  | 0 => l
  | i + 1 => bif lat ds i == n then (fiI l n i).set i (cmb ds d ini st fn (fiI l n i) i) else fiI l n i
noncomputable def fiN : Nat → List α
  | 0 => x0
  | n + 1 => fiI ds d ini st fn (fiN n) n ds.length
def vl : Nat → Nat → α
  | 0, _ => d
  | f + 1, c => fn (chF ds st (ini (x0.getD c d)) (vl f) c ds.length)
noncomputable def vT (c : Nat) : α := vl ds d ini st fn x0 (lat ds c + 1) c
@[simp] theorem fiI_len (l : List α) (n : Nat) : ∀ i, (fiI ds d ini st fn l n i).length = l.length
  | 0 => rfl
  | i + 1 => by
    have := fiI_len l n i
    rw [fiI]; cases (lat ds i == n)
    · exact this
    · rw [cond_true, List.length_set, this]
@[simp] theorem fiN_len : ∀ n, (fiN ds d ini st fn x0 n).length = x0.length
  | 0 => rfl
  | n + 1 => by rw [fiN, fiI_len, fiN_len n]
variable {ds d ini st fn x0}
theorem fiI_yes {l : List α} {n i : Nat} (h : lat ds i = n) : fiI ds d ini st fn l n (i + 1) = (fiI ds d ini st fn l n i).set i (cmb ds d ini st fn (fiI ds d ini st fn l n i) i) := by
  rw [fiI, beq_iff_eq.2 h, cond_true]
theorem fiI_no {l : List α} {n i : Nat} (h : lat ds i ≠ n) : fiI ds d ini st fn l n (i + 1) = fiI ds d ini st fn l n i := by
  rw [fiI, beq_eq_false_iff_ne.2 h, cond_false]
theorem vl_stable {W H : Int} (hW : Wys W H ds) : ∀ (f g c : Nat), c < ds.length → lat ds c < f → lat ds c < g → vl ds d ini st fn x0 f c = vl ds d ini st fn x0 g c
  | 0, _, _, _, h, _ => by omega
  | _, 0, _, _, _, h => by omega
  | f + 1, g + 1, c, hc, h1, h2 => by
    rw [vl, vl]
    refine congrArg fn (chF_congr ds st fun k hk e => ?_)
    have := lat_up hW hk hc e
    exact vl_stable hW f g k hk (by omega) (by omega)
theorem vT_eq {W H : Int} (hW : Wys W H ds) {c : Nat} (hc : c < ds.length) : vT ds d ini st fn x0 c = fn (chF ds st (ini (x0.getD c d)) (vT ds d ini st fn x0) c ds.length) := by
  rw [vT, vl]
  refine congrArg fn (chF_congr ds st fun k hk e => ?_)
  have := lat_up hW hk hc e
  exact vl_stable hW _ _ k hk (by omega) (by omega)
theorem fiI_spec {W H : Int} (hW : Wys W H ds) {l : List α} {n : Nat} (hl : l.length = ds.length) (h : ∀ c, c < ds.length → l.getD c d = if lat ds c < n then vT ds d ini st fn x0 c else x0.getD c d) :
    ∀ i, i ≤ ds.length → ∀ c, c < ds.length → (fiI ds d ini st fn l n i).getD c d = if lat ds c < n ∨ (lat ds c = n ∧ c < i) then vT ds d ini st fn x0 c else x0.getD c d
  | 0, _, c, hc => by
    rw [fiI, h c hc]
    by_cases e : lat ds c < n
    · rw [if_pos e, if_pos (.inl e)]
    · rw [if_neg e, if_neg (fun h' => by omega)]
  | i + 1, hi, c, hc => by
    have ih := fiI_spec hW hl h i (by omega)
    by_cases e : lat ds i = n
    · rw [fiI_yes e, getD_setG _ _ _ _ (by rw [fiI_len, hl]; omega)]
      by_cases ec : c = i
      · subst ec
        rw [if_pos rfl, if_pos (.inr ⟨e, by omega⟩), vT_eq hW hc, cmb, ih c hc, if_neg (fun h' => by omega)]
        refine congrArg fn (chF_congr ds st fun k hk e' => ?_)
        have := lat_up hW hk hc e'
        rw [ih k hk, if_pos (.inl (by omega))]
      · rw [if_neg ec, ih c hc]
        by_cases h1 : lat ds c < n ∨ (lat ds c = n ∧ c < i)
        · rw [if_pos h1, if_pos (by omega)]
        · rw [if_neg h1, if_neg (by omega)]
    · rw [fiI_no e, ih c hc]
      by_cases h1 : lat ds c < n ∨ (lat ds c = n ∧ c < i)
      · rw [if_pos h1, if_pos (by omega)]
      · rw [if_neg h1, if_neg (by
          intro h'
          rcases h' with h' | ⟨h2, h3⟩
          · exact h1 (.inl h')
          · by_cases ec : c = i
            · subst ec; exact e h2
            · exact h1 (.inr ⟨h2, by omega⟩))]
theorem fiN_spec {W H : Int} (hW : Wys W H ds) (hl : x0.length = ds.length) : ∀ n c, c < ds.length → (fiN ds d ini st fn x0 n).getD c d = if lat ds c < n then vT ds d ini st fn x0 c else x0.getD c d
  | 0, c, _ => by rw [fiN, if_neg (by omega)]
  | n + 1, c, hc => by
    rw [fiN, fiI_spec hW (by rw [fiN_len, hl]) (fun c hc => fiN_spec hW hl n c hc) _ (Nat.le_refl _) c hc]
    by_cases h1 : lat ds c < n + 1
    · rw [if_pos h1, if_pos (by omega)]
    · rw [if_neg h1, if_neg (by omega)]
theorem fiN_all {W H : Int} (hW : Wys W H ds) (hl : x0.length = ds.length) : fiN ds d ini st fn x0 ds.length = tabN (vT ds d ini st fn x0) ds.length := by
  apply List.ext_getElem
  · rw [fiN_len, tabN_len, hl]
  · intro c h1 h2
    rw [tabN_len] at h2
    have e := fiN_spec (d := d) (ini := ini) (st := st) (fn := fn) hW hl ds.length c h2
    rw [if_pos (lat_lt hW h2), List.getD_eq_getElem?_getD, List.getElem?_eq_getElem h1] at e
    have e2 := tabN_getD (vT ds d ini st fn x0) h2 (d := d)
    rw [List.getD_eq_getElem?_getD, List.getElem?_eq_getElem (by rw [tabN_len]; exact h2)] at e2
    exact e.trans e2.symm
end
/-! Orders. -/
def orF (p : Int × Int) (v : Int) : Int × Int := bif decide (v > p.1) then (v, 1) else bif v == p.1 then (p.1, p.2 + 1) else p
def orZ (p : Int × Int) : Int := bif p.1 == 0 || decide (p.2 ≥ 2) then p.1 + 1 else p.1
noncomputable def orT (ds : List Int) (c : Nat) : Int := vT ds 0 (fun _ => (0, 0)) orF orZ (List.replicate ds.length (0 : Int)) c
noncomputable def orL (ds : List Int) : List Int := tabN (orT ds) ds.length
def OrI (p : Int × Int) (B C : Int) : Prop := (p = (0, 0) ∨ (1 ≤ p.1 ∧ 1 ≤ p.2)) ∧ p.1 ≤ B ∧ p.2 ≤ C
theorem orF_inv {p : Int × Int} {B C v : Int} (h : OrI p B C) (hC : 0 ≤ C) (hv : 1 ≤ v ∧ v ≤ B) : OrI (orF p v) B (C + 1) := by
  obtain ⟨h1, h2, h3⟩ := h
  unfold orF
  by_cases e : v > p.1
  · rw [decide_eq_true e, cond_true]; exact ⟨.inr ⟨hv.1, Int.le_refl _⟩, hv.2, by dsimp only; omega⟩
  · rw [decide_eq_false e, cond_false]
    cases e' : (v == p.1)
    · rw [cond_false]; exact ⟨h1, h2, by omega⟩
    · rw [cond_true]
      have e' : v = p.1 := by simpa using e'
      rcases h1 with h1 | h1
      · rw [h1] at e'; dsimp only at e'; omega
      · exact ⟨.inr ⟨h1.1, by dsimp only; omega⟩, h2, by dsimp only; omega⟩
theorem ch_or {ds : List Int} {v : Nat → Int} {c B : Int} (hB : 0 ≤ B) : ∀ m, (∀ k, k < m → ds.getD k 0 = c → 1 ≤ v k ∧ v k ≤ B) → OrI (chF ds orF (0, 0) v c m) B m
  | 0, _ => ⟨.inl rfl, hB, Int.le_refl _⟩
  | m + 1, h => by
    have ih := ch_or hB m fun k hk => h k (by omega)
    by_cases e : ds.getD m 0 = c
    · rw [chF_yes _ _ e]
      exact orF_inv ih (by omega) (h m (by omega) e)
    · rw [chF_no _ _ e]
      exact ⟨ih.1, ih.2.1, by have := ih.2.2; omega⟩
theorem orZ_inv {p : Int × Int} {B C : Int} (h : OrI p B C) : 1 ≤ orZ p ∧ orZ p ≤ B + 1 := by
  obtain ⟨h1, h2, h3⟩ := h
  unfold orZ
  cases e : (p.1 == 0 || decide (p.2 ≥ 2))
  · rw [cond_false]
    simp at e
    rcases h1 with h1 | h1
    · rw [h1] at e; simp at e
    · omega
  · rw [cond_true]
    rcases h1 with h1 | h1
    · rw [h1] at h2 ⊢; dsimp only at *; omega
    · omega
theorem vl_or {W H : Int} {ds : List Int} (hW : Wys W H ds) : ∀ (f c : Nat), c < ds.length → lat ds c < f → 1 ≤ vl ds 0 (fun _ => (0, 0)) orF orZ (List.replicate ds.length (0 : Int)) f c ∧ vl ds 0 (fun _ => (0, 0)) orF orZ (List.replicate ds.length (0 : Int)) f c ≤ f
  | 0, _, _, h => by omega
  | f + 1, c, hc, h => by
    rw [vl]
    have := orZ_inv (ch_or (B := f) (ds := ds) (v := vl ds 0 (fun _ => (0, 0)) orF orZ (List.replicate ds.length (0 : Int)) f) (c := c) (by omega) ds.length fun k hk e => vl_or hW f k hk (by have := lat_up hW hk hc e; omega))
    exact ⟨this.1, by have := this.2; omega⟩
theorem orT_range {W H : Int} {ds : List Int} (hW : Wys W H ds) {c : Nat} (hc : c < ds.length) : 1 ≤ orT ds c ∧ orT ds c ≤ 257 := by
  have := vl_or hW (lat ds c + 1) c hc (by omega)
  have h1 := lat_lt hW hc
  have h2 := hW.2.1
  have h3 := hW.2.2.1
  unfold orT vT
  omega
/-! The walks. -/

noncomputable def orNn (ds : List Int) (n : Nat) : List Int := fiN ds 0 (fun _ => (0, 0)) orF orZ (List.replicate ds.length (0 : Int)) n
noncomputable def orIi (ds : List Int) (n i : Nat) : List Int := fiI ds 0 (fun _ => (0, 0)) orF orZ (orNn ds n) n i
noncomputable def orP (ds : List Int) (l : List Int) (i : Nat) (k : Nat) : Int × Int := chF ds orF (0, 0) (fun k => l.getD k 0) i k
@[simp] theorem orNn_len (ds : List Int) (n : Nat) : (orNn ds n).length = ds.length := by rw [orNn, fiN_len, List.length_replicate]
@[simp] theorem orIi_len (ds : List Int) (n i : Nat) : (orIi ds n i).length = ds.length := by rw [orIi, fiI_len, orNn_len]
theorem orIi_child {W H : Int} {ds : List Int} (hW : Wys W H ds) {n i k : Nat} (hi : i < ds.length) (hk : k < ds.length) (e : lat ds i = n) (e' : ds.getD k 0 = i) : (orIi ds n i).getD k 0 = orT ds k := by
  have := lat_up hW hk hi e'
  have h := fiI_spec (d := (0 : Int)) (ini := fun _ => ((0, 0) : Int × Int)) (st := orF) (fn := orZ) (x0 := List.replicate ds.length (0 : Int)) hW (l := orNn ds n) (n := n) (orNn_len ds n) (fun c hc => fiN_spec hW (by simp) n c hc) i (by omega) k hk
  rw [if_pos (.inl (by omega))] at h
  exact h
theorem orP_inv {W H : Int} {ds : List Int} (hW : Wys W H ds) {n i : Nat} (hi : i < ds.length) (e : lat ds i = n) : ∀ m, m ≤ ds.length → OrI (orP ds (orIi ds n i) i m) 257 m := fun m hm =>
  ch_or (by omega) m fun k hk e' => by
    have := orIi_child hW hi (show k < ds.length by omega) e e'
    try dsimp only
    rw [this]; exact orT_range hW (by omega)
theorem orIi_yes {ds : List Int} {n i : Nat} (h : lat ds i = n) : orIi ds n (i + 1) = (orIi ds n i).set i (orZ (orP ds (orIi ds n i) i ds.length)) := fiI_yes h
theorem orIi_no {ds : List Int} {n i : Nat} (h : lat ds i ≠ n) : orIi ds n (i + 1) = orIi ds n i := fiI_no h
theorem orP_yes {ds l : List Int} {i k : Nat} (h : ds.getD k 0 = i) : orP ds l i (k + 1) = orF (orP ds l i k) (l.getD k 0) := chF_yes _ _ h
theorem orP_no {ds l : List Int} {i k : Nat} (h : ds.getD k 0 ≠ i) : orP ds l i (k + 1) = orP ds l i k := chF_no _ _ h
theorem orNn_all {W H : Int} {ds : List Int} (hW : Wys W H ds) : orNn ds ds.length = orL ds := fiN_all hW (by simp)
noncomputable def orO (W H : Int) (xs : List Nat) (ds : List Int) : List Int := bif waysB W H xs ds then orL ds else []
theorem orO_len (W H : Int) (xs : List Nat) (ds : List Int) (h : ds.length ≤ 1048576) : (orO W H xs ds).length ≤ 1048576 := by
  unfold orO
  cases waysB W H xs ds
  · exact Nat.zero_le _
  · rw [cond_true, orL, tabN_len]; exact h
theorem orF_gt {p : Int × Int} {v : Int} (h : v > p.1) : orF p v = (v, 1) := by rw [orF, decide_eq_true h, cond_true]
theorem orF_eq {p : Int × Int} {v : Int} (h : v = p.1) : orF p v = (p.1, p.2 + 1) := by rw [orF, decide_eq_false (by omega), cond_false, beq_iff_eq.2 h, cond_true]
theorem orF_lt {p : Int × Int} {v : Int} (h : ¬ v > p.1) (h' : v ≠ p.1) : orF p v = p := by rw [orF, decide_eq_false h, cond_false, beq_eq_false_iff_ne.2 h', cond_false]

theorem orT_step {W H : Int} {ds : List Int} (hW : Wys W H ds) {c : Nat} (hc : c < ds.length) : orT ds c = orZ (chF ds orF (0, 0) (orT ds) c ds.length) := vT_eq hW hc
theorem iOrder {W H : Int} {ds : List Int} (hW : Wys W H ds) : ∀ (m c : Nat) (t : AV), c < ds.length → lat ds c < m → Does Try.prog 64 [.sli (.int .i64) ds t, .int .i64 c] (.int .i64 (orT ds c)) := by
  have hl := hW.2.1
  have hm := hW.2.2.1
  intro m
  induction m with
  | zero => intro c t hc hlt; omega
  | succ m ih =>
    intro c t hc hlt
    have hP : ∀ k, k ≤ ds.length → OrI (chF ds orF (0, 0) (orT ds) c k) 257 k := fun k hk => ch_or (by omega) k fun j hj e => orT_range hW (by omega)
    rw [orT_step hW hc]
    refine Does.of_awp (X := cx 44) Try.func64 rfl (by kernel_rfl) rfl (by simp [cx]) [] rfl ?_
    conv => whnf
    repeat (first
      | (refine ⟨⟨by kernel_rfl, by kernel_rfl⟩, ?_⟩; conv => whnf)
      | (refine And.intro (by first | omega | (simp; done) | (simp; omega)) ?_; conv => whnf)
      | (refine Or.inl (And.intro (by omega) ?_); conv => whnf))
    refine ⟨Nat, fun k => k ≤ ds.length, fun k => [(0, .sli (.int .i64) ds t), (1, .int .i64 c), (5, .int .i64 (chF ds orF (0, 0) (orT ds) c k).1), (6, .int .i64 (chF ds orF (0, 0) (orT ds) c k).2), (10, .sli (.int .i64) ds t), (11, .int .i64 ds.length), (12, .int .i64 k)], fun _ => [], fun k => ds.length - k, ⟨0, id, Nat.zero_le _, rfl, ⟨rfl, rfl, rfl, rfl, rfl, rfl, rfl, trivial⟩, trivial⟩, fun k hk => ?_⟩
    dsimp only at hk
    have hPk := hP k hk
    conv => whnf
    (refine br_intro (fun h4 => ?_) (fun h4 => ?_) <;> (conv => whnf))
    · have h4 : k < ds.length := by simp at h4; omega
      repeat (first
        | (refine ⟨⟨by kernel_rfl, by kernel_rfl⟩, ?_⟩; conv => whnf)
        | (refine And.intro (by first | omega | (simp; done) | (simp; omega)) ?_; conv => whnf)
        | (refine Or.inl (And.intro (by omega) ?_); conv => whnf))
      (refine br_intro (fun h5 => ?_) (fun h5 => ?_) <;> (conv => whnf))
      · have h5 : ds.getD k 0 ≠ c := by
          have h5 : (ds.getD k 0 != (c : Int)) = true := h5
          simpa using h5
        have e := chF_no (b := ((0, 0) : Int × Int)) (v := orT ds) ds orF h5
        have e1 := congrArg Prod.fst e
        have e2 := congrArg Prod.snd e
        repeat (first
          | (refine ⟨⟨by kernel_rfl, by kernel_rfl⟩, ?_⟩; conv => whnf)
          | (refine And.intro (by first | omega | (simp; done) | (simp; omega)) ?_; conv => whnf)
          | (refine Or.inl (And.intro (by omega) ?_); conv => whnf))
        refine ⟨k + 1, id, ⟨h4, by dsimp only; omega⟩, rfl, ⟨rfl, rfl, congrArg (AV.int .i64) e1.symm, congrArg (AV.int .i64) e2.symm, rfl, rfl, rfl, trivial⟩, trivial⟩
      · have h5 : ds.getD k 0 = c := by
          have h5 : (ds.getD k 0 != (c : Int)) = false := h5
          simpa using h5
        have e := chF_yes (b := ((0, 0) : Int × Int)) (v := orT ds) ds orF h5
        have hu := lat_up hW h4 hc h5
        have hr := orT_range hW h4
        have eR : ∀ t, Does Try.prog 64 [.sli (.int .i64) ds t, .int .i64 k] (.int .i64 (orT ds k)) := fun t => ih k t h4 (by omega)
        repeat (first
          | (refine ⟨⟨by kernel_rfl, by kernel_rfl⟩, ?_⟩; conv => whnf)
          | (refine And.intro (by first | omega | (simp; done) | (simp; omega)) ?_; conv => whnf)
          | (refine Or.inl (And.intro (by omega) ?_); conv => whnf)
          | (refine Exists.intro _ (And.intro (eR _) ?_); conv => whnf))
        (refine br_intro (fun h6 => ?_) (fun h6 => ?_) <;> (conv => whnf))
        · have h6 : orT ds k > (chF ds orF (0, 0) (orT ds) c k).1 := by
            have h6 : decide (orT ds k > (chF ds orF (0, 0) (orT ds) c k).1) = true := h6
            simpa using h6
          rw [orF_gt h6] at e
          have e1 := congrArg Prod.fst e
          have e2 := congrArg Prod.snd e
          repeat (first
            | (refine ⟨⟨by kernel_rfl, by kernel_rfl⟩, ?_⟩; conv => whnf)
            | (refine And.intro (by first | omega | (simp; done) | (simp; omega)) ?_; conv => whnf)
            | (refine Or.inl (And.intro (by omega) ?_); conv => whnf))
          refine ⟨k + 1, id, ⟨h4, by dsimp only; omega⟩, rfl, ⟨rfl, rfl, congrArg (AV.int .i64) e1.symm, congrArg (AV.int .i64) e2.symm, rfl, rfl, rfl, trivial⟩, trivial⟩
        · have h6 : ¬ orT ds k > (chF ds orF (0, 0) (orT ds) c k).1 := by
            have h6 : decide (orT ds k > (chF ds orF (0, 0) (orT ds) c k).1) = false := h6
            simpa using h6
          repeat (first
            | (refine ⟨⟨by kernel_rfl, by kernel_rfl⟩, ?_⟩; conv => whnf)
            | (refine And.intro (by first | omega | (simp; done) | (simp; omega)) ?_; conv => whnf)
            | (refine Or.inl (And.intro (by omega) ?_); conv => whnf))
          (refine br_intro (fun h7 => ?_) (fun h7 => ?_) <;> (conv => whnf))
          · have h7 : orT ds k = (chF ds orF (0, 0) (orT ds) c k).1 := by
              have h7 : (orT ds k == (chF ds orF (0, 0) (orT ds) c k).1) = true := h7
              simpa using h7
            rw [orF_eq h7] at e
            have e1 := congrArg Prod.fst e
            have e2 := congrArg Prod.snd e
            have r1 := hPk.2.2
            have r2 : 0 ≤ (chF ds orF (0, 0) (orT ds) c k).2 := by
              rcases hPk.1 with hz | hz
              · rw [hz]; exact Int.le_refl _
              · omega
            repeat (first
              | (refine ⟨⟨by kernel_rfl, by kernel_rfl⟩, ?_⟩; conv => whnf)
              | (refine And.intro (by first | omega | (simp; done) | (simp; omega)) ?_; conv => whnf)
              | (refine Or.inl (And.intro (by omega) ?_); conv => whnf))
            refine ⟨k + 1, id, ⟨h4, by dsimp only; omega⟩, rfl, ⟨rfl, rfl, congrArg (AV.int .i64) e1.symm, congrArg (AV.int .i64) e2.symm, rfl, rfl, rfl, trivial⟩, trivial⟩
          · have h7 : orT ds k ≠ (chF ds orF (0, 0) (orT ds) c k).1 := by
              have h7 : (orT ds k == (chF ds orF (0, 0) (orT ds) c k).1) = false := h7
              simpa using h7
            rw [orF_lt h6 h7] at e
            have e1 := congrArg Prod.fst e
            have e2 := congrArg Prod.snd e
            repeat (first
              | (refine ⟨⟨by kernel_rfl, by kernel_rfl⟩, ?_⟩; conv => whnf)
              | (refine And.intro (by first | omega | (simp; done) | (simp; omega)) ?_; conv => whnf)
              | (refine Or.inl (And.intro (by omega) ?_); conv => whnf))
            refine ⟨k + 1, id, ⟨h4, by dsimp only; omega⟩, rfl, ⟨rfl, rfl, congrArg (AV.int .i64) e1.symm, congrArg (AV.int .i64) e2.symm, rfl, rfl, rfl, trivial⟩, trivial⟩
    · have h4 : k = ds.length := by simp at h4; omega
      subst h4
      have r0 := hPk.2.1
      have r1 := hPk.2.2
      have hI := hPk.1
      repeat (first
        | (refine ⟨⟨by kernel_rfl, by kernel_rfl⟩, ?_⟩; conv => whnf)
        | (refine And.intro (by first | omega | (simp; done) | (simp; omega)) ?_; conv => whnf)
        | (refine Or.inl (And.intro (by omega) ?_); conv => whnf))
      (refine br_intro (fun h5 => ?_) (fun h5 => ?_) <;> (conv => whnf))
      · have h5 : ((chF ds orF (0, 0) (orT ds) c ds.length).2 == 0) = true := h5
        have h5 : (chF ds orF (0, 0) (orT ds) c ds.length).2 = 0 := by simpa using h5
        have h6 : (chF ds orF (0, 0) (orT ds) c ds.length).1 = 0 := by
          rcases hI with hz | hz
          · exact congrArg Prod.fst hz
          · omega
        have eZ : orZ (chF ds orF (0, 0) (orT ds) c ds.length) = 1 := by rw [orZ, h6]; rfl
        rw [eZ]
        repeat (first
          | (refine ⟨⟨by kernel_rfl, by kernel_rfl⟩, ?_⟩; conv => whnf)
          | (refine And.intro (by first | omega | (simp; done) | (simp; omega)) ?_; conv => whnf)
          | (refine Or.inl (And.intro (by omega) ?_); conv => whnf))
        all_goals (try (conv => whnf))
        all_goals (repeat' (first | exact True.intro | (refine And.intro ?_ ?_ <;> (conv => whnf))))
        all_goals (first | rfl | (simp_all []; done) | (simp only [cond_true, cond_false, Bool.and_true, Bool.true_and, Bool.and_false, Bool.false_and]; rfl) | (simp_all []; omega))
      · have h5 : ((chF ds orF (0, 0) (orT ds) c ds.length).2 == 0) = false := h5
        have h5 : (chF ds orF (0, 0) (orT ds) c ds.length).2 ≠ 0 := by simpa using h5
        have hI : 1 ≤ (chF ds orF (0, 0) (orT ds) c ds.length).1 ∧ 1 ≤ (chF ds orF (0, 0) (orT ds) c ds.length).2 := by
          rcases hI with hz | hz
          · exact absurd (congrArg Prod.snd hz) h5
          · exact hz
        repeat (first
          | (refine ⟨⟨by kernel_rfl, by kernel_rfl⟩, ?_⟩; conv => whnf)
          | (refine And.intro (by first | omega | (simp; done) | (simp; omega)) ?_; conv => whnf)
          | (refine Or.inl (And.intro (by omega) ?_); conv => whnf))
        (refine br_intro (fun h6 => ?_) (fun h6 => ?_) <;> (conv => whnf))
        · have h6 : decide ((chF ds orF (0, 0) (orT ds) c ds.length).2 > 1) = true := h6
          have h6 : (chF ds orF (0, 0) (orT ds) c ds.length).2 > 1 := by simpa using h6
          have eZ : orZ (chF ds orF (0, 0) (orT ds) c ds.length) = (chF ds orF (0, 0) (orT ds) c ds.length).1 + 1 := by
            rw [orZ, show decide ((chF ds orF (0, 0) (orT ds) c ds.length).2 ≥ 2) = true from decide_eq_true (by omega), Bool.or_true]; rfl
          rw [eZ]
          repeat (first
            | (refine ⟨⟨by kernel_rfl, by kernel_rfl⟩, ?_⟩; conv => whnf)
            | (refine And.intro (by first | omega | (simp; done) | (simp; omega)) ?_; conv => whnf)
            | (refine Or.inl (And.intro (by omega) ?_); conv => whnf))
        · have h6 : decide ((chF ds orF (0, 0) (orT ds) c ds.length).2 > 1) = false := h6
          have h6 : ¬ (chF ds orF (0, 0) (orT ds) c ds.length).2 > 1 := by simpa using h6
          have eZ : orZ (chF ds orF (0, 0) (orT ds) c ds.length) = (chF ds orF (0, 0) (orT ds) c ds.length).1 := by
            rw [orZ, show decide ((chF ds orF (0, 0) (orT ds) c ds.length).2 ≥ 2) = false from decide_eq_false (by omega), Bool.or_false, show ((chF ds orF (0, 0) (orT ds) c ds.length).1 == 0) = false from by simp; omega]; rfl
          rw [eZ]
          repeat (first
            | (refine ⟨⟨by kernel_rfl, by kernel_rfl⟩, ?_⟩; conv => whnf)
            | (refine And.intro (by first | omega | (simp; done) | (simp; omega)) ?_; conv => whnf)
            | (refine Or.inl (And.intro (by omega) ?_); conv => whnf))

theorem iOrders {W H : Int} {xs : List Nat} {ds : List Int} {t t2 : AV} (hn : xs.length ≤ 1048576) (hn' : ds.length ≤ 1048576) : Does Try.prog 33 [.agg [.int .i64 W, .int .i64 H, .sli .f32 xs t], .sli (.int .i64) ds t2] (.tup [.own 0 (.int .i64) (orO W H xs ds), .bool (waysB W H xs ds)]) := by
  refine Does.of_awp (X := cx 26) Try.func33 rfl (by kernel_rfl) rfl (by simp [cx]) [48] rfl ?_
  conv => whnf
  repeat (first
    | (refine ⟨⟨by kernel_rfl, by kernel_rfl⟩, ?_⟩; conv => whnf)
    | (refine And.intro (by first | omega | (simp; done) | (simp; omega)) ?_; conv => whnf)
    | (refine Or.inl (And.intro (by omega) ?_); conv => whnf)
    | (refine Exists.intro _ (And.intro (iWaysB (by first | omega | (simp; done) | (simp; omega)) (by first | omega | (simp; done) | (simp; omega))) ?_); conv => whnf))
  (refine br_intro (fun g1 => ?_) (fun g1 => ?_) <;> (conv => whnf))
  · have g1 : waysB W H xs ds = false := by simpa using g1
    all_goals (try (conv => whnf))
    all_goals (repeat' (first | exact True.intro | (refine And.intro ?_ ?_ <;> (conv => whnf))))
    all_goals (first | rfl | (simp_all [orO]; done) | (simp only [orO, cond_true, cond_false, Bool.and_true, Bool.true_and, Bool.and_false, Bool.false_and]; rfl) | (simp_all [orO]; omega))
  have g1 : waysB W H xs ds = true := by simpa using g1
  have hW := waysB_Wys g1
  have hl := hW.2.1
  have hm := hW.2.2.1
  have eO : orO W H xs ds = tabN (orT ds) ds.length := by rw [orO, g1]; rfl
  rw [g1, eO]
  clear eO g1
  repeat (first
    | (refine ⟨⟨by kernel_rfl, by kernel_rfl⟩, ?_⟩; conv => whnf)
    | (refine And.intro (by first | omega | (simp; done) | (simp; omega)) ?_; conv => whnf)
    | (refine Or.inl (And.intro (by omega) ?_); conv => whnf))
  refine ⟨Nat, fun i => i ≤ ds.length, fun i => [(1, .sli (.int .i64) ds t2), (6, .osl 48), (14, .int .i64 ds.length), (15, .int .i64 i)], fun i => [(48, .tab (.int .i64) (tabN (orT ds) i))], fun i => ds.length - i, ⟨0, id, Nat.zero_le _, rfl, ⟨rfl, rfl, rfl, rfl, trivial⟩, ⟨rfl, trivial⟩⟩, fun i hi => ?_⟩
  dsimp only at hi
  conv => whnf
  (refine br_intro (fun h => ?_) (fun h => ?_) <;> (conv => whnf))
  · have h : i < ds.length := by simp at h; omega
    have eR : ∀ t, Does Try.prog 64 [.sli (.int .i64) ds t, .int .i64 i] (.int .i64 (orT ds i)) := fun t => iOrder hW _ i t h (Nat.lt_succ_self _)
    repeat (first
      | (refine ⟨⟨by kernel_rfl, by kernel_rfl⟩, ?_⟩; conv => whnf)
      | (refine And.intro (by first | omega | (simp; done) | (simp; omega)) ?_; conv => whnf)
      | (refine Or.inl (And.intro (by omega) ?_); conv => whnf)
      | (refine Exists.intro _ (And.intro (eR _) ?_); conv => whnf))
    refine ⟨i + 1, ren [(48, 92)], ⟨h, by dsimp only; omega⟩, rfl, ⟨rfl, rfl, rfl, rfl, trivial⟩, ⟨rfl, trivial⟩⟩
  · have h : i = ds.length := by simp at h; omega
    subst h
    repeat (first
      | (refine ⟨⟨by kernel_rfl, by kernel_rfl⟩, ?_⟩; conv => whnf)
      | (refine And.intro (by first | omega | (simp; done) | (simp; omega)) ?_; conv => whnf)
      | (refine Or.inl (And.intro (by omega) ?_); conv => whnf))
    all_goals (try (conv => whnf))
    all_goals (repeat' (first | exact True.intro | (refine And.intro ?_ ?_ <;> (conv => whnf))))
    all_goals (first | rfl | (simp_all []; done) | (simp only [cond_true, cond_false, Bool.and_true, Bool.true_and, Bool.and_false, Bool.false_and]; rfl) | (simp_all []; omega))

noncomputable def thF (a v : Nat) : Nat := fop .add .f32 a v
noncomputable def thT (ds : List Int) (rs : List Nat) (c : Nat) : Nat := vT ds 0 id thF id rs c
noncomputable def thL (ds : List Int) (rs : List Nat) : List Nat := tabN (thT ds rs) ds.length
noncomputable def thNn (ds : List Int) (rs : List Nat) (n : Nat) : List Nat := fiN ds 0 id thF id rs n
noncomputable def thIi (ds : List Int) (rs : List Nat) (n i : Nat) : List Nat := fiI ds 0 id thF id (thNn ds rs n) n i
noncomputable def thP (ds : List Int) (l : List Nat) (i k : Nat) : Nat := chF ds thF (l.getD i 0) (fun k => l.getD k 0) i k
@[simp] theorem thNn_len (ds : List Int) (rs : List Nat) (n : Nat) : (thNn ds rs n).length = rs.length := by rw [thNn, fiN_len]
@[simp] theorem thIi_len (ds : List Int) (rs : List Nat) (n i : Nat) : (thIi ds rs n i).length = rs.length := by rw [thIi, fiI_len, thNn_len]
theorem thIi_yes {ds : List Int} {rs : List Nat} {n i : Nat} (h : lat ds i = n) : thIi ds rs n (i + 1) = (thIi ds rs n i).set i (thP ds (thIi ds rs n i) i ds.length) := fiI_yes h
theorem thIi_no {ds : List Int} {rs : List Nat} {n i : Nat} (h : lat ds i ≠ n) : thIi ds rs n (i + 1) = thIi ds rs n i := fiI_no h
theorem thNn_all {W H : Int} {ds : List Int} {rs : List Nat} (hW : Wys W H ds) (hl : rs.length = ds.length) : thNn ds rs ds.length = thL ds rs := fiN_all hW hl
theorem thT_step {W H : Int} {ds : List Int} {rs : List Nat} (hW : Wys W H ds) {c : Nat} (hc : c < ds.length) : thT ds rs c = chF ds thF (rs.getD c 0) (thT ds rs) c ds.length := vT_eq hW hc
/-- The list while a cell is summed up in its place. -/
noncomputable def thM (ds : List Int) (l : List Nat) (i k : Nat) : List Nat := l.set i (thP ds l i k)
theorem thM_zero {ds : List Int} {l : List Nat} {i : Nat} : thM ds l i 0 = l := by
  show l.set i (l.getD i 0) = l
  apply List.ext_getElem
  · simp
  · intro k h1 h2
    rw [List.getElem_set]
    split
    · rename_i e; subst e; rw [List.getD_eq_getElem?_getD, List.getElem?_eq_getElem h2]; rfl
    · rfl
theorem thM_no {ds : List Int} {l : List Nat} {i k : Nat} (h : ds.getD k 0 ≠ i) : thM ds l i (k + 1) = thM ds l i k := by
  unfold thM thP; rw [chF_no _ _ h]
theorem thM_self {ds : List Int} {l : List Nat} {i k : Nat} (hi : i < l.length) : (thM ds l i k).getD i 0 = thP ds l i k := by
  unfold thM; rw [getD_setG _ _ _ _ hi, if_pos rfl]
theorem thM_other {ds : List Int} {l : List Nat} {i k j : Nat} (hi : i < l.length) (h : j ≠ i) : (thM ds l i k).getD j 0 = l.getD j 0 := by
  unfold thM; rw [getD_setG _ _ _ _ hi, if_neg h]
theorem thM_yes {ds : List Int} {l : List Nat} {i k : Nat} (hi : i < l.length) (hk : k ≠ i) (h : ds.getD k 0 = i) : (thM ds l i k).set i (fop .add .f32 ((thM ds l i k).getD i 0) ((thM ds l i k).getD k 0)) = thM ds l i (k + 1) := by
  rw [thM_self hi, thM_other hi hk]
  unfold thM
  rw [List.set_set]
  congr 1
  unfold thP; rw [chF_yes _ _ h]; rfl
@[simp] theorem thM_len (ds : List Int) (l : List Nat) (i k : Nat) : (thM ds l i k).length = l.length := by simp [thM]
noncomputable def thC (W H : Int) (xs : List Nat) (ds : List Int) (rs : List Nat) : Bool := waysB W H xs ds && decide (rs.length = ds.length) && finL rs
noncomputable def thB (W H : Int) (xs : List Nat) (ds : List Int) (rs : List Nat) : Bool := thC W H xs ds rs && finL (thL ds rs)
noncomputable def thO (W H : Int) (xs : List Nat) (ds : List Int) (rs : List Nat) : List Nat := bif thB W H xs ds rs then thL ds rs else []
theorem thO_len (W H : Int) (xs : List Nat) (ds : List Int) (rs : List Nat) (h : ds.length ≤ 1048576) : (thO W H xs ds rs).length ≤ 1048576 := by
  unfold thO
  cases thB W H xs ds rs
  · exact Nat.zero_le _
  · rw [cond_true, thL, tabN_len]; exact h

theorem iThrough1 {W H : Int} {ds : List Int} {rs : List Nat} (hW : Wys W H ds) (hl2 : rs.length = ds.length) : ∀ (m c : Nat) (t t2 : AV), c < ds.length → lat ds c < m → Does Try.prog 62 [.sli (.int .i64) ds t, .sli .f32 rs t2, .int .i64 c] (.flt .f32 (thT ds rs c)) := by
  have hl := hW.2.1
  have hm := hW.2.2.1
  intro m
  induction m with
  | zero => intro c t t2 hc hlt; omega
  | succ m ih =>
    intro c t t2 hc hlt
    rw [thT_step hW hc]
    refine Does.of_awp (X := cx 32) Try.func62 rfl (by kernel_rfl) rfl (by simp [cx]) [] rfl ?_
    conv => whnf
    repeat (first
      | (refine ⟨⟨by kernel_rfl, by kernel_rfl⟩, ?_⟩; conv => whnf)
      | (refine And.intro (by first | omega | (simp; done) | (simp; omega)) ?_; conv => whnf)
      | (refine Or.inl (And.intro (by omega) ?_); conv => whnf))
    refine ⟨Nat, fun k => k ≤ ds.length, fun k => [(0, .sli (.int .i64) ds t), (1, .sli .f32 rs t2), (2, .int .i64 c), (7, .flt .f32 (chF ds thF (rs.getD c 0) (thT ds rs) c k)), (14, .sli (.int .i64) ds t), (15, .int .i64 ds.length), (16, .int .i64 k)], fun _ => [], fun k => ds.length - k, ⟨0, id, Nat.zero_le _, rfl, ⟨rfl, rfl, rfl, rfl, rfl, rfl, rfl, trivial⟩, trivial⟩, fun k hk => ?_⟩
    dsimp only at hk
    conv => whnf
    (refine br_intro (fun h4 => ?_) (fun h4 => ?_) <;> (conv => whnf))
    · have h4 : k < ds.length := by simp at h4; omega
      repeat (first
        | (refine ⟨⟨by kernel_rfl, by kernel_rfl⟩, ?_⟩; conv => whnf)
        | (refine And.intro (by first | omega | (simp; done) | (simp; omega)) ?_; conv => whnf)
        | (refine Or.inl (And.intro (by omega) ?_); conv => whnf))
      (refine br_intro (fun h5 => ?_) (fun h5 => ?_) <;> (conv => whnf))
      · have h5 : ds.getD k 0 = c := by
          have h5 : (ds.getD k 0 == (c : Int)) = true := h5
          simpa using h5
        have e := chF_yes (b := rs.getD c 0) (v := thT ds rs) ds thF h5
        have hu := lat_up hW h4 hc h5
        have eR : ∀ t t2, Does Try.prog 62 [.sli (.int .i64) ds t, .sli .f32 rs t2, .int .i64 k] (.flt .f32 (thT ds rs k)) := fun t t2 => ih k t t2 h4 (by omega)
        repeat (first
          | (refine ⟨⟨by kernel_rfl, by kernel_rfl⟩, ?_⟩; conv => whnf)
          | (refine And.intro (by first | omega | (simp; done) | (simp; omega)) ?_; conv => whnf)
          | (refine Or.inl (And.intro (by omega) ?_); conv => whnf)
          | (refine Exists.intro _ (And.intro (eR _ _) ?_); conv => whnf))
        refine ⟨k + 1, id, ⟨h4, by dsimp only; omega⟩, rfl, ⟨rfl, rfl, rfl, congrArg (AV.flt .f32) e.symm, rfl, rfl, rfl, trivial⟩, trivial⟩
      · have h5 : ds.getD k 0 ≠ c := by
          have h5 : (ds.getD k 0 == (c : Int)) = false := h5
          simpa using h5
        have e := chF_no (b := rs.getD c 0) (v := thT ds rs) ds thF h5
        repeat (first
          | (refine ⟨⟨by kernel_rfl, by kernel_rfl⟩, ?_⟩; conv => whnf)
          | (refine And.intro (by first | omega | (simp; done) | (simp; omega)) ?_; conv => whnf)
          | (refine Or.inl (And.intro (by omega) ?_); conv => whnf))
        refine ⟨k + 1, id, ⟨h4, by dsimp only; omega⟩, rfl, ⟨rfl, rfl, rfl, congrArg (AV.flt .f32) e.symm, rfl, rfl, rfl, trivial⟩, trivial⟩
    · have h4 : k = ds.length := by simp at h4; omega
      subst h4
      repeat (first
        | (refine ⟨⟨by kernel_rfl, by kernel_rfl⟩, ?_⟩; conv => whnf)
        | (refine And.intro (by first | omega | (simp; done) | (simp; omega)) ?_; conv => whnf)
        | (refine Or.inl (And.intro (by omega) ?_); conv => whnf))
      all_goals (try (conv => whnf))
      all_goals (repeat' (first | exact True.intro | (refine And.intro ?_ ?_ <;> (conv => whnf))))
      all_goals (first | rfl | (simp_all []; done) | (simp only [cond_true, cond_false, Bool.and_true, Bool.true_and, Bool.and_false, Bool.false_and]; rfl) | (simp_all []; omega))

theorem iThrough {W H : Int} {xs rs : List Nat} {ds : List Int} {t t2 t3 : AV} (hn : xs.length ≤ 1048576) (hn' : ds.length ≤ 1048576) (hn3 : rs.length ≤ 1048576) : Does Try.prog 31 [.agg [.int .i64 W, .int .i64 H, .sli .f32 xs t], .sli (.int .i64) ds t2, .sli .f32 rs t3] (.tup [.own 0 .f32 (thO W H xs ds rs), .bool (thB W H xs ds rs)]) := by
  refine Does.of_awp (X := cx 44) Try.func31 rfl (by kernel_rfl) rfl (by simp [cx]) [104] rfl ?_
  conv => whnf
  repeat (first
    | (refine ⟨⟨by kernel_rfl, by kernel_rfl⟩, ?_⟩; conv => whnf)
    | (refine And.intro (by first | omega | (simp; done) | (simp; omega)) ?_; conv => whnf)
    | (refine Or.inl (And.intro (by omega) ?_); conv => whnf)
    | (refine Exists.intro _ (And.intro (iWaysB (by first | omega | (simp; done) | (simp; omega)) (by first | omega | (simp; done) | (simp; omega))) ?_); conv => whnf))
  (refine br_intro (fun g1 => ?_) (fun g1 => ?_) <;> (conv => whnf))
  · have g1 : waysB W H xs ds = false := by simpa using g1
    have eB : thB W H xs ds rs = false := by rw [thB, thC, g1]; rfl
    repeat (first
      | (refine ⟨⟨by kernel_rfl, by kernel_rfl⟩, ?_⟩; conv => whnf)
      | (refine And.intro (by first | omega | (simp; done) | (simp; omega)) ?_; conv => whnf)
      | (refine Or.inl (And.intro (by omega) ?_); conv => whnf)
      | (refine br_intro (fun h => by exfalso; first | (simp at h; done) | (simp at h; omega) | omega) (fun _ => ?_); conv => whnf)
      | (refine br_intro (fun _ => ?_) (fun h => by exfalso; first | (simp at h; done) | (simp at h; omega) | omega); conv => whnf))
    all_goals (try (conv => whnf))
    all_goals (repeat' (first | exact True.intro | (refine And.intro ?_ ?_ <;> (conv => whnf))))
    all_goals (first | rfl | (simp_all [thO, eB]; done) | (simp only [thO, eB, cond_true, cond_false, Bool.and_true, Bool.true_and, Bool.and_false, Bool.false_and]; rfl) | (simp_all [thO, eB]; omega))
  have g1 : waysB W H xs ds = true := by simpa using g1
  repeat (first
    | (refine ⟨⟨by kernel_rfl, by kernel_rfl⟩, ?_⟩; conv => whnf)
    | (refine And.intro (by first | omega | (simp; done) | (simp; omega)) ?_; conv => whnf)
    | (refine Or.inl (And.intro (by omega) ?_); conv => whnf))
  (refine br_intro (fun g2 => ?_) (fun g2 => ?_) <;> (conv => whnf))
  · have g2 : ¬ rs.length = ds.length := by simp at g2; omega
    have eB : thB W H xs ds rs = false := by rw [thB, thC, decide_eq_false g2, Bool.and_false]; rfl
    repeat (first
      | (refine ⟨⟨by kernel_rfl, by kernel_rfl⟩, ?_⟩; conv => whnf)
      | (refine And.intro (by first | omega | (simp; done) | (simp; omega)) ?_; conv => whnf)
      | (refine Or.inl (And.intro (by omega) ?_); conv => whnf)
      | (refine br_intro (fun h => by exfalso; first | (simp at h; done) | (simp at h; omega) | omega) (fun _ => ?_); conv => whnf)
      | (refine br_intro (fun _ => ?_) (fun h => by exfalso; first | (simp at h; done) | (simp at h; omega) | omega); conv => whnf))
    all_goals (try (conv => whnf))
    all_goals (repeat' (first | exact True.intro | (refine And.intro ?_ ?_ <;> (conv => whnf))))
    all_goals (first | rfl | (simp_all [thO, eB]; done) | (simp only [thO, eB, cond_true, cond_false, Bool.and_true, Bool.true_and, Bool.and_false, Bool.false_and]; rfl) | (simp_all [thO, eB]; omega))
  have g2 : rs.length = ds.length := by simp at g2; omega
  repeat (first
    | (refine ⟨⟨by kernel_rfl, by kernel_rfl⟩, ?_⟩; conv => whnf)
    | (refine And.intro (by first | omega | (simp; done) | (simp; omega)) ?_; conv => whnf)
    | (refine Or.inl (And.intro (by omega) ?_); conv => whnf)
    | (refine Exists.intro _ (And.intro (iFinL (by first | omega | (simp; done) | (simp; omega))) ?_); conv => whnf))
  (refine br_intro (fun g3 => ?_) (fun g3 => ?_) <;> (conv => whnf))
  · have g3 : finL rs = false := by simpa using g3
    have eB : thB W H xs ds rs = false := by rw [thB, thC, g3, Bool.and_false]; rfl
    repeat (first
      | (refine ⟨⟨by kernel_rfl, by kernel_rfl⟩, ?_⟩; conv => whnf)
      | (refine And.intro (by first | omega | (simp; done) | (simp; omega)) ?_; conv => whnf)
      | (refine Or.inl (And.intro (by omega) ?_); conv => whnf)
      | (refine br_intro (fun h => by exfalso; first | (simp at h; done) | (simp at h; omega) | omega) (fun _ => ?_); conv => whnf)
      | (refine br_intro (fun _ => ?_) (fun h => by exfalso; first | (simp at h; done) | (simp at h; omega) | omega); conv => whnf))
    all_goals (try (conv => whnf))
    all_goals (repeat' (first | exact True.intro | (refine And.intro ?_ ?_ <;> (conv => whnf))))
    all_goals (first | rfl | (simp_all [thO, eB]; done) | (simp only [thO, eB, cond_true, cond_false, Bool.and_true, Bool.true_and, Bool.and_false, Bool.false_and]; rfl) | (simp_all [thO, eB]; omega))
  have g3 : finL rs = true := by simpa using g3
  have hW := waysB_Wys g1
  have hl := hW.2.1
  have hm := hW.2.2.1
  have eC : thC W H xs ds rs = true := by rw [thC, g1, g3, decide_eq_true g2]; rfl
  clear g1 g3
  repeat (first
    | (refine ⟨⟨by kernel_rfl, by kernel_rfl⟩, ?_⟩; conv => whnf)
    | (refine And.intro (by first | omega | (simp; done) | (simp; omega)) ?_; conv => whnf)
    | (refine Or.inl (And.intro (by omega) ?_); conv => whnf))
  refine ⟨Nat, fun i => i ≤ ds.length, fun i => [(1, .sli (.int .i64) ds t2), (2, .sli .f32 rs t3), (8, .osl 104), (28, .int .i64 ds.length), (29, .int .i64 i)], fun i => [(104, .tab .f32 (tabN (thT ds rs) i))], fun i => ds.length - i, ⟨0, id, Nat.zero_le _, rfl, ⟨rfl, rfl, rfl, rfl, rfl, trivial⟩, ⟨rfl, trivial⟩⟩, fun i hi => ?_⟩
  dsimp only at hi
  conv => whnf
  (refine br_intro (fun h => ?_) (fun h => ?_) <;> (conv => whnf))
  · have h : i < ds.length := by simp at h; omega
    have eR : ∀ t t2, Does Try.prog 62 [.sli (.int .i64) ds t, .sli .f32 rs t2, .int .i64 i] (.flt .f32 (thT ds rs i)) := fun t t2 => iThrough1 hW g2 _ i t t2 h (Nat.lt_succ_self _)
    repeat (first
      | (refine ⟨⟨by kernel_rfl, by kernel_rfl⟩, ?_⟩; conv => whnf)
      | (refine And.intro (by first | omega | (simp; done) | (simp; omega)) ?_; conv => whnf)
      | (refine Or.inl (And.intro (by omega) ?_); conv => whnf)
      | (refine Exists.intro _ (And.intro (eR _ _) ?_); conv => whnf))
    refine ⟨i + 1, ren [(104, 152)], ⟨h, by dsimp only; omega⟩, rfl, ⟨rfl, rfl, rfl, rfl, rfl, trivial⟩, ⟨rfl, trivial⟩⟩
  · have h : i = ds.length := by simp at h; omega
    subst h
    have eN : tabN (thT ds rs) ds.length = thL ds rs := rfl
    have hll : (tabN (thT ds rs) ds.length).length ≤ 1048576 := by rw [tabN_len]; omega
    repeat (first
      | (refine ⟨⟨by kernel_rfl, by kernel_rfl⟩, ?_⟩; conv => whnf)
      | (refine And.intro (by first | omega | (simp; done) | (simp; omega)) ?_; conv => whnf)
      | (refine Or.inl (And.intro (by omega) ?_); conv => whnf)
      | (refine Exists.intro _ (And.intro (iFinL (by first | omega | (simp; done) | (simp; omega))) ?_); conv => whnf))
    (refine br_intro (fun hF => ?_) (fun hF => ?_) <;> (conv => whnf))
    · have hF : finL (tabN (thT ds rs) ds.length) = false := by simpa using hF
      have eB : thB W H xs ds rs = false := by rw [thB, eC, ← eN, hF]; rfl
      have eO : thO W H xs ds rs = [] := by rw [thO, eB]; rfl
      rw [eB, eO]
      repeat (first
        | (refine ⟨⟨by kernel_rfl, by kernel_rfl⟩, ?_⟩; conv => whnf)
        | (refine And.intro (by first | omega | (simp; done) | (simp; omega)) ?_; conv => whnf)
        | (refine Or.inl (And.intro (by omega) ?_); conv => whnf))
      all_goals (try (conv => whnf))
      all_goals (repeat' (first | exact True.intro | (refine And.intro ?_ ?_ <;> (conv => whnf))))
      all_goals (first | rfl | (simp_all []; done) | (simp only [cond_true, cond_false, Bool.and_true, Bool.true_and, Bool.and_false, Bool.false_and]; rfl) | (simp_all []; omega))
    · have hF : finL (tabN (thT ds rs) ds.length) = true := by simpa using hF
      have eB : thB W H xs ds rs = true := by rw [thB, eC, ← eN, hF]; rfl
      have eO : thO W H xs ds rs = tabN (thT ds rs) ds.length := by rw [thO, eB, eN]; rfl
      rw [eB, eO]
      repeat (first
        | (refine ⟨⟨by kernel_rfl, by kernel_rfl⟩, ?_⟩; conv => whnf)
        | (refine And.intro (by first | omega | (simp; done) | (simp; omega)) ?_; conv => whnf)
        | (refine Or.inl (And.intro (by omega) ?_); conv => whnf))
      all_goals (try (conv => whnf))
      all_goals (repeat' (first | exact True.intro | (refine And.intro ?_ ?_ <;> (conv => whnf))))
      all_goals (first | rfl | (simp_all []; done) | (simp only [cond_true, cond_false, Bool.and_true, Bool.true_and, Bool.and_false, Bool.false_and]; rfl) | (simp_all []; omega))

end Go.Proofs.Ytngmlbeafdaolaa
