/- What each function of this seat does (Wo3). Printed from templates of this seat's own. -/
import Derived.Test.YtngmlbeafdaolaaWo1
import Derived.Test.YtngmlbeafdaolaaPat
namespace Go.Proofs.Ytngmlbeafdaolaa
open Go.Ax Go.Bx
set_option maxRecDepth 8000
set_option linter.unusedSimpArgs false
set_option linter.unusedVariables false
theorem eql_F {a b : Nat} (ha : isNaN .f32 a = false) (hb : isNaN .f32 b = false) : fcmp .eql .f32 a b = decide (P32 a = P32 b) := eql_num ha hb
/-- What the search for the nearest cell as high knows. -/
def bwKnow (f : List Nat) (s : List Int) (i : Nat) (b : Int) (done : List (Int × Nat)) : Prop :=
  (b = -1 ∧ ∀ r ∈ done, P32 (f.getD r.1.toNat 0) ≠ P32 (f.getD i 0)) ∨
  (∃ r ∈ done, b = r.1 ∧ 0 ≤ b ∧ P32 (f.getD r.1.toNat 0) = P32 (f.getD i 0) ∧ ∀ r' ∈ done, P32 (f.getD r'.1.toNat 0) = P32 (f.getD i 0) → s.getD b.toNat 0 ≤ s.getD r'.1.toNat 0)
theorem bw_know {W H : Int} {f : List Nat} {s : List Int} (hh : HillW W H f) {i : Nat} (hi : i < f.length) : ∀ (l : List (Int × Nat)) (b : Int) (done : List (Int × Nat)), (∀ r ∈ l, r ∈ nbL W H i 8) → bwKnow f s i b done → bwKnow f s i (l.foldl (bwF f s i) b) (done ++ l)
  | [], b, done, _, h => by simpa using h
  | r :: l, b, done, hl, h => by
    rw [List.foldl_cons, show done ++ r :: l = (done ++ [r]) ++ l by simp]
    refine bw_know hh hi l _ _ (fun r' h' => hl r' (List.mem_cons_of_mem _ h')) ?_
    obtain ⟨k, hk, hO, e⟩ := farK_of (hl r (List.mem_cons_self ..))
    have n1 := nbC_lt hh hO
    have er : r.1 = nbC W i k := by rw [e]
    have hc : fcmp .eql .f32 (f.getD r.1.toNat 0) (f.getD i 0) = decide (P32 (f.getD r.1.toNat 0) = P32 (f.getD i 0)) := eql_F (hh.nn (by rw [er]; exact n1.2.2)).1.1 (hh.nn hi).1.1
    by_cases he : P32 (f.getD r.1.toNat 0) = P32 (f.getD i 0)
    · rw [decide_eq_true he] at hc
      rcases h with ⟨hb, h1⟩ | ⟨r0, m0, hb, hb0, h1, h2⟩
      · rw [bwF_neg hc (by omega)]
        refine .inr ⟨r, by simp, rfl, by rw [er]; exact n1.1, he, fun r' m h' => ?_⟩
        rw [List.mem_append, List.mem_singleton] at m
        rcases m with m | m
        · exact absurd h' (h1 r' m)
        · rw [m]; exact Int.le_refl _
      · by_cases hlt : s.getD r.1.toNat 0 < s.getD b.toNat 0
        · rw [bwF_lt hc hlt]
          refine .inr ⟨r, by simp, rfl, by rw [er]; exact n1.1, he, fun r' m h' => ?_⟩
          rw [List.mem_append, List.mem_singleton] at m
          rcases m with m | m
          · have := h2 r' m h'; omega
          · rw [m]; exact Int.le_refl _
        · rw [bwF_ge (by omega) hlt]
          refine .inr ⟨r0, List.mem_append_left _ m0, hb, hb0, h1, fun r' m h' => ?_⟩
          rw [List.mem_append, List.mem_singleton] at m
          rcases m with m | m
          · exact h2 r' m h'
          · rw [m]; omega
    · rw [decide_eq_false he] at hc
      rw [bwF_ne hc]
      rcases h with ⟨hb, h1⟩ | ⟨r0, m0, hb, hb0, h1, h2⟩
      · refine .inl ⟨hb, fun r' m => ?_⟩
        rw [List.mem_append, List.mem_singleton] at m
        rcases m with m | m
        · exact h1 r' m
        · rw [m]; exact he
      · refine .inr ⟨r0, List.mem_append_left _ m0, hb, hb0, h1, fun r' m h' => ?_⟩
        rw [List.mem_append, List.mem_singleton] at m
        rcases m with m | m
        · exact h2 r' m h'
        · rw [m] at h'; exact absurd h' he
/-- How many below n meet a test. -/
def cn (p : Nat → Bool) : Nat → Nat
  | 0 => 0
  | n + 1 => cn p n + (p n).toNat
theorem cn_le {p q : Nat → Bool} : ∀ n, (∀ j, j < n → p j = true → q j = true) → cn p n ≤ cn q n
  | 0, _ => Nat.le_refl _
  | n + 1, h => by
    have h1 := cn_le n fun j hj => h j (by omega)
    have h2 := h n (by omega)
    rw [cn, cn]
    cases hp : p n with
    | false => simp; omega
    | true => rw [h2 hp]; omega
theorem cn_lt {p q : Nat → Bool} {a : Nat} (h1 : p a = false) (h2 : q a = true) : ∀ n, a < n → (∀ j, j < n → p j = true → q j = true) → cn p n < cn q n
  | n + 1, ha, h => by
    rw [cn, cn]
    by_cases e : a = n
    · subst e
      have := cn_le a fun j hj => h j (by omega)
      rw [h1, h2]; simp; omega
    · have := cn_lt h1 h2 n (by omega) fun j hj => h j (by omega)
      have h2 := h n (by omega)
      cases hp : p n with
      | false => simp; omega
      | true => rw [h2 hp]; omega
theorem cn_max (p : Nat → Bool) : ∀ n, cn p n ≤ n
  | 0 => Nat.le_refl _
  | n + 1 => by
    have := cn_max p n
    rw [cn]
    cases p n <;> simp <;> omega
/-- Ways on which a number falls end. -/
theorem ways_end {n : Nat} {ds : List Int} (hl : ds.length = n) {key : Nat → Int} (h : ∀ i, i < n → ds.getD i 0 = -1 ∨ (0 ≤ ds.getD i 0 ∧ ds.getD i 0 < n ∧ key (ds.getD i 0).toNat < key i)) {i : Nat} (hi : i < n) : wyAc ds i = true := by
  let m : Nat → Nat := fun i => cn (fun j => decide (key j < key i)) n
  have hm : ∀ a b, a < n → key a < key b → m a < m b := fun a b ha hab => by
    refine cn_lt (p := fun j => decide (key j < key a)) (q := fun j => decide (key j < key b)) (a := a) (decide_eq_false (by omega)) (decide_eq_true hab) n ha fun j hj hp => ?_
    have := of_decide_eq_true hp
    exact decide_eq_true (by omega)
  have step : ∀ t, wyCur ds i t = -1 ∨ (0 ≤ wyCur ds i t ∧ wyCur ds i t < n ∧ m (wyCur ds i t).toNat + t ≤ m i) := by
    intro t
    induction t with
    | zero => exact .inr ⟨by show 0 ≤ (i : Int); omega, by show (i : Int) < n; omega, by show m (i : Int).toNat + 0 ≤ m i; rw [Int.toNat_natCast]; omega⟩
    | succ t ih =>
      rcases ih with ih | ⟨h1, h2, h3⟩
      · left
        rw [wyCur, ih]; rfl
      · rw [wyCur_pos h1]
        rcases h (wyCur ds i t).toNat (by omega) with g | ⟨g1, g2, g3⟩
        · exact .inl g
        · have := hm _ _ (by omega) g3
          exact .inr ⟨g1, g2, by omega⟩
  have hmi := cn_max (fun j => decide (key j < key i)) n
  unfold wyAc
  rw [hl]
  rcases step (n + 1) with g | ⟨_, _, g⟩
  · rw [g]; rfl
  · exfalso
    have : m i ≤ n := hmi
    omega
theorem bes_of {W H : Int} {i k : Nat} (hk : k < 8) (hO : nbOk W H i k = true) : isBes W H i (nbC W i k) = true := by
  obtain ⟨r, m, e⟩ := nbL_in hO hk
  unfold isBes
  rw [List.any_eq_true]
  exact ⟨r, m, by rw [e]; exact beq_self_eq_true _⟩
/-- Where a way leads: to a cell beside with a lower number, or nowhere. -/
def Leads (W H : Int) (n : Nat) (ds : List Int) (key : Nat → Int) : Prop := ds.length = n ∧ ∀ i : Nat, i < n → ds.getD i 0 = -1 ∨ ∃ k, k < 8 ∧ nbOk W H i k = true ∧ ds.getD i 0 = nbC W i k ∧ key (nbC W i k).toNat < key i
theorem leads_ways {W H : Int} {xs : List Nat} (hh : HillW W H xs) {ds : List Int} {key : Nat → Int} (h : Leads W H xs.length ds key) : waysB W H xs ds = true := by
  obtain ⟨hl, h⟩ := h
  unfold waysB
  rw [hh.1, hl, decide_eq_true rfl, Bool.true_and, Bool.true_and, Bool.and_eq_true]
  refine ⟨allN_iff.2 fun i hi => ?_, allN_iff.2 fun i hi => ?_⟩
  · unfold wyBe
    rw [Bool.or_eq_true]
    rcases h i hi with g | ⟨k, hk, hO, e, _⟩
    · left; rw [g]; rfl
    · right; rw [e]; exact bes_of hk hO
  · refine ways_end hl (key := key) (fun j hj => ?_) hi
    rcases h j hj with g | ⟨k, hk, hO, e, g⟩
    · exact .inl g
    · right
      have := nbC_lt hh hO
      rw [e]
      exact ⟨this.1, this.2.1, g⟩
theorem down_leads {W H : Int} {xs : List Nat} (hx : HalfH W H xs) : Leads W H xs.length (waL W H xs) fun i => P32 (xs.getD i 0) := by
  have hl := hill_len hx.1.1
  refine ⟨by unfold waL; rw [tabN_len]; omega, fun i hi => ?_⟩
  rw [waL_at hx.1 hi]
  rcases (fl_facts hx (cel_of hx.1 hi)).2 with ⟨e, _⟩ | ⟨k, hk, hO, e, _, h⟩
  · left; rw [e]
  · right
    rw [Int.toNat_natCast] at h
    exact ⟨k, hk, hO, e, h⟩
section
variable {W H : Int} {xs : List Nat} (hx : HalfH W H xs) (hn : xs.length ≤ 100)
/-- The ways that run. -/
noncomputable def rwW (W H : Int) (xs : List Nat) : List Int := rwL 256 W H (filW W H xs) (waL W H (filW W H xs))
include hx in
theorem wa_ok : waC W H xs = true ∧ rwO W H xs = rwW W H xs := by
  have fin' : ∀ {ys : List Nat}, HalfH W H ys → waC W H ys = true := fun {ys} hy => by
    have hl := hill_len hy.1.1
    unfold waC
    rw [hy.1.1, Bool.true_and]
    exact allN_iff.2 fun i hi => by
      rw [fin_eq]; exact decide_eq_true (fl_facts hy (cel_of hy.1 (show i < ys.length by omega))).1
  refine ⟨fin' hx, ?_⟩
  unfold rwO rwB
  rw [hx.1.1, fin' (fil_half hx)]
  rfl
noncomputable def keyW (W H : Int) (xs : List Nat) (i : Nat) : Int := P32 ((filW W H xs).getD i 0) * 1000 + (sW W H xs).getD i 0
include hx hn in
/-- Where the ways that run lead. -/
theorem run_step {i : Nat} (hi : i < xs.length) : ((rwW W H xs).getD i 0 = -1 ∧ edB W H i = true) ∨ ∃ k, k < 8 ∧ nbOk W H i k = true ∧ (rwW W H xs).getD i 0 = nbC W i k ∧ P32 ((filW W H xs).getD (nbC W i k).toNat 0) ≤ P32 ((filW W H xs).getD i 0) ∧ keyW W H xs (nbC W i k).toNat < keyW W H xs i := by
  have hh := hx.1
  have hf := fil_half hx
  have K := filK hh
  have hl := hill_len hh.1
  have F := stW_fix (N := 256) (W := W) (H := H) (f := filW W H xs) (ds := waL W H (filW W H xs)) hf.1 (by omega)
  have jl : i < (filW W H xs).length := by rw [K.len]; exact hi
  have sb : ∀ j, j < xs.length → 0 ≤ (sW W H xs).getD j 0 ∧ (sW W H xs).getD j 0 ≤ 256 := fun j hj => by
    have := F.1.2.1 j (by rw [K.len]; exact hj)
    exact ⟨this.2.2.2, this.2.2.1⟩
  have wl : (waL W H (filW W H xs)).length = xs.length := by unfold waL; rw [tabN_len]; omega
  have eR : (rwW W H xs).getD i 0 = rwF 256 W H (filW W H xs) (waL W H (filW W H xs)) i := by
    unfold rwW rwL
    exact tabN_getD (rwF 256 W H (filW W H xs) (waL W H (filW W H xs))) (show i < (waL W H (filW W H xs)).length by omega) 0
  rw [eR]
  cases hZ : stZ W H (waL W H (filW W H xs)) i with
  | true =>
    rw [rwF_Z hZ, waL_at hf.1 jl]
    rcases (fl_facts hf (cel_of hf.1 jl)).2 with ⟨e, _⟩ | ⟨k, hk, hO, e, _, h⟩
    · left
      rw [e]
      refine ⟨rfl, ?_⟩
      rw [stZ, waL_at hf.1 jl, e] at hZ
      simpa using hZ
    · right
      rw [Int.toNat_natCast] at h
      refine ⟨k, hk, hO, e, Int.le_of_lt h, ?_⟩
      have n1 := (nbC_lt hh hO).2.2
      have := sb _ n1
      have := sb i hi
      unfold keyW
      omega
  | false =>
    rw [rwF_no hZ]
    right
    have lt := no_stuck hx hn hi hZ
    have know := bw_know (s := stW 256 W H (filW W H xs) (waL W H (filW W H xs))) hf.1 jl (nbL W H i 8) (-1) [] (fun r h => h) (.inl ⟨rfl, fun r h => by simp at h⟩)
    rw [List.nil_append, show (nbL W H i 8).foldl (bwF (filW W H xs) (stW 256 W H (filW W H xs) (waL W H (filW W H xs))) i) (-1) = bwS W H (filW W H xs) (stW 256 W H (filW W H xs) (waL W H (filW W H xs))) i 8 from rfl] at know
    obtain ⟨k0, hk0, hA, hle⟩ : ∃ k, k < 8 ∧ stA W H (filW W H xs) i k = true ∧ (sW W H xs).getD (nbC W i k).toNat 0 + 1 ≤ (sW W H xs).getD i 0 := by
      rcases F.1.2.2.1 i jl hZ with e | h
      · have e : (sW W H xs).getD i 0 = 256 := e
        omega
      · exact h
    obtain ⟨hO0, n0⟩ := stA_lt hf.1 hA
    have he0 : P32 ((filW W H xs).getD (nbC W i k0).toNat 0) = P32 ((filW W H xs).getD i 0) := by
      rw [stA_eq hO0, eql_F (hf.1.nn n0).1.1 (hf.1.nn jl).1.1] at hA
      exact of_decide_eq_true hA
    obtain ⟨r0, m0, e0⟩ := nbL_in hO0 hk0
    rcases know with ⟨_, g⟩ | ⟨r, m, e, _, g1, g2⟩
    · exact absurd (by rw [e0]; exact he0) (g r0 m0)
    · obtain ⟨k, hk, hO, er⟩ := farK_of m
      have e1 : r.1 = nbC W i k := by rw [er]
      have h3 := g2 r0 m0 (by rw [e0]; exact he0)
      rw [e0] at h3
      rw [e1] at e g1
      refine ⟨k, hk, hO, e, Int.le_of_eq g1, ?_⟩
      rw [e] at h3
      have h3 : (sW W H xs).getD (nbC W i k).toNat 0 ≤ (sW W H xs).getD (nbC W i k0).toNat 0 := h3
      unfold keyW
      rw [g1]
      omega
include hx hn in
theorem run_leads : Leads W H xs.length (rwW W H xs) (keyW W H xs) := by
  have hl := hill_len hx.1.1
  refine ⟨?_, fun i hi => ?_⟩
  · unfold rwW rwL waL
    rw [tabN_len, tabN_len]; omega
  · rcases run_step hx hn hi with ⟨e, _⟩ | ⟨k, hk, hO, e, _, h⟩
    · exact .inl e
    · exact .inr ⟨k, hk, hO, e, h⟩
end

/-! What fills a hill. -/
theorem fil_level {W H : Int} {xs : List Nat} (hh : HillW W H xs) {i : Nat} (hi : i < xs.length) : ∃ j, j < xs.length ∧ P32 ((filW W H xs).getD i 0) = P32 (xs.getD j 0) := by
  have K := filK hh
  apply Classical.byContradiction
  intro hno
  have hno : ∀ j, j < xs.length → P32 ((filW W H xs).getD i 0) ≠ P32 (xs.getD j 0) := fun j hj e => hno ⟨j, hj, e⟩
  have := K.top (fun j => if P32 ((filW W H xs).getD j 0) = P32 ((filW W H xs).getD i 0) then P32 ((filW W H xs).getD i 0) + 1 else P32 ((filW W H xs).getD j 0)) ⟨fun j hj he => ?_, fun j hj he k hk hO => ?_⟩ i hi
  · try dsimp only at this
    rw [if_pos rfl] at this
    omega
  · have e := K.edge j hj he
    have := hno j hj
    dsimp only
    rw [if_neg (by omega)]
    omega
  · have n1 := (nbC_lt hh hO).2.2
    have h1 := K.fix j hj he k hk hO
    have h2 := K.up j hj
    have h3 := hno j hj
    dsimp only at h1 ⊢
    split <;> split <;> omega
theorem fil_idem {W H : Int} {xs : List Nat} (hh : HillW W H xs) : filW W H (filW W H xs) = filW W H xs := by
  have K := filK hh
  have hf := (filW_ok hh).1
  have fix : fhFix W H (filW W H xs) (filW W H xs) := by
    refine ⟨⟨rfl, fun i hi => (hf.nn hi).1, fun i hi _ => rfl, fun i hi => Int.le_refl _, fun q hq i hi => ?_⟩, fun i hi he k hk hO => by dsimp only; omega⟩
    have := K.top (fun j => max (q j) (P32 ((filW W H xs).getD j 0))) ⟨fun j hj he => ?_, fun j hj he k hk hO => ?_⟩ i (by rw [← K.len]; exact hi)
    · try dsimp only at this
      omega
    · have h1 := hq.1 j (by rw [K.len]; exact hj) he
      have h2 := K.edge j hj he
      dsimp only; omega
    · have h1 := hq.2 j (by rw [K.len]; exact hj) he k hk hO
      have h2 := K.fix j hj he k hk hO
      dsimp only at h1 h2 ⊢
      omega
  rw [← filW_eq hf fix]
  unfold filR
  apply List.ext_getElem
  · rw [tabN_len]
  · intro i h1 h2
    have e := tabN_getD (fun i => nzW ((filW W H xs).getD i 0) ((filW W H xs).getD i 0)) (show i < (filW W H xs).length from h2) 0
    rw [List.getD_eq_getElem?_getD, List.getElem?_eq_getElem h1, Option.getD_some] at e
    rw [e]
    have hn := (hf.nn h2).1
    unfold nzW
    rw [eql_num hn.1 hn.1, decide_eq_true rfl, cond_true, List.getD_eq_getElem?_getD, List.getElem?_eq_getElem h2]
    rfl
/-- A hill whose heights are few halves. -/
def DyH (W H : Int) (xs : List Nat) (g : Nat → Int) : Prop := HillW W H xs ∧ ∀ i, i < xs.length → -20 ≤ g i ∧ g i ≤ 20 ∧ Dy .f32 1 (g i) (xs.getD i 0)
theorem dy_pos {a b : Nat} {n : Int} (h : Dy .f32 1 n a) (hb : Ax.Fin .f32 b) (e : P32 b = P32 a) : Dy .f32 1 n b := by
  refine ⟨hb, h.2.1, ?_⟩
  have e : pos .f32 b = pos .f32 a := e
  have h1 := (pos_sv (k := .f32) (x := a) (y := b)).1 (by omega)
  have h2 := (pos_sv (k := .f32) (x := b) (y := a)).1 (by omega)
  rw [← h.2.2]; omega
theorem dy_le {a b : Nat} {n m : Int} (ha : Dy .f32 1 n a) (hb : Dy .f32 1 m b) : P32 a ≤ P32 b ↔ n ≤ m := ha.le_iff hb
theorem fin_F {W H : Int} {xs : List Nat} (hh : HillW W H xs) {i : Nat} (hi : i < xs.length) : Ax.Fin .f32 (xs.getD i 0) := by
  have := (hh.nn hi).2
  rw [fin_eq] at this
  unfold isFin at this
  have := of_decide_eq_true this
  exact this
/-- The filled heights, in halves; each is the height of some cell. -/
theorem fil_dy {W H : Int} {xs : List Nat} {g : Nat → Int} (hx : DyH W H xs g) : ∃ p : Nat → Nat, ∀ i, i < xs.length → p i < xs.length ∧ Dy .f32 1 (g (p i)) ((filW W H xs).getD i 0) ∧ P32 ((filW W H xs).getD i 0) = P32 (xs.getD (p i) 0) ∧ g i ≤ g (p i) ∧ (edB W H i = true → g (p i) = g i) := by
  have hh := hx.1
  have K := filK hh
  have hf := (filW_ok hh).1
  let p : Nat → Nat := fun i => if hi : i < xs.length then Classical.choose (fil_level hh hi) else 0
  have hp : ∀ i, i < xs.length → p i < xs.length ∧ P32 ((filW W H xs).getD i 0) = P32 (xs.getD (p i) 0) := fun i hi => by
    have := Classical.choose_spec (fil_level hh hi)
    show (if hi : i < xs.length then Classical.choose (fil_level hh hi) else 0) < _ ∧ _ = P32 (xs.getD (if hi : i < xs.length then Classical.choose (fil_level hh hi) else 0) 0)
    rw [dif_pos hi]; exact this
  refine ⟨p, fun i hi => ?_⟩
  obtain ⟨h1, h2⟩ := hp i hi
  have d := (hx.2 _ h1).2.2
  have di := (hx.2 i hi).2.2
  have up := K.up i hi
  rw [h2] at up
  refine ⟨h1, dy_pos d (fin_F hf (by rw [K.len]; exact hi)) h2, h2, (dy_le di d).1 up, fun he => ?_⟩
  have := K.edge i hi he
  rw [h2] at this
  have a := (dy_le di d).1 (by omega)
  have b := (dy_le d di).1 (by omega)
  omega
def sI (f : Nat → Int) : Nat → Int
  | 0 => 0
  | n + 1 => sI f n + f n
theorem sI_b {f : Nat → Int} {c : Int} : ∀ n : Nat, (∀ i, i < n → 0 ≤ f i ∧ f i ≤ c) → 0 ≤ sI f n ∧ sI f n ≤ n * c
  | 0, _ => by simp [sI]
  | n + 1, h => by
    have h1 := sI_b n fun i hi => h i (by omega)
    have h2 := h n (by omega)
    rw [sI, Int.natCast_add, Int.add_mul]
    simp only [Int.natCast_one, Int.one_mul]
    omega
theorem sI_congr {f g : Nat → Int} : ∀ n, (∀ i, i < n → f i = g i) → sI f n = sI g n
  | 0, _ => rfl
  | n + 1, h => by rw [sI, sI, sI_congr n fun i hi => h i (by omega), h n (by omega)]
theorem sI_mul {f : Nat → Int} (c : Int) : ∀ n, sI (fun i => c * f i) n = c * sI f n
  | 0 => by simp [sI]
  | n + 1 => by rw [sI, sI, sI_mul c n, Int.mul_add]
/-- The hollow of such a hill. -/
theorem hollow_dy {W H : Int} {xs : List Nat} {g : Nat → Int} (hx : DyH W H xs g) (hn : xs.length ≤ 100) {p : Nat → Nat} (hp : ∀ i, i < xs.length → p i < xs.length ∧ Dy .f32 1 (g (p i)) ((filW W H xs).getD i 0) ∧ P32 ((filW W H xs).getD i 0) = P32 (xs.getD (p i) 0) ∧ g i ≤ g (p i) ∧ (edB W H i = true → g (p i) = g i)) :
    ∀ k, k ≤ xs.length → Dy .f32 1 (sI (fun i => g (p i) - g i) k) (hoN xs (filW W H xs) k) ∧ 0 ≤ sI (fun i => g (p i) - g i) k ∧ sI (fun i => g (p i) - g i) k ≤ k * 40
  | 0, _ => ⟨dy_zero 1 (by omega), Int.le_refl _, by simp [sI]⟩
  | k + 1, hk => by
    obtain ⟨h1, h2, h3⟩ := hollow_dy hx hn hp k (by omega)
    obtain ⟨a1, a2, _, a3, _⟩ := hp k (by omega)
    obtain ⟨b1, b2, b3⟩ := hx.2 k (by omega)
    obtain ⟨c1, c2, _⟩ := hx.2 _ a1
    have d := a2.sub b3 (by rw [show 2 * FloatKind.f32.format.binade = 16777216 from by decide +kernel]; omega)
    have s := h1.add d (by rw [show 2 * FloatKind.f32.format.binade = 16777216 from by decide +kernel]; omega)
    rw [hoN]
    have e : sI (fun i => g (p i) - g i) (k + 1) = sI (fun i => g (p i) - g i) k + (g (p k) - g k) := rfl
    rw [e]
    exact ⟨s, by omega, by omega⟩
/-- A hill twice as high is filled twice as high. -/
theorem fil_twice {W H : Int} {xs ys : List Nat} {g g2 : Nat → Int} (hx : DyH W H xs g) (hy : DyH W H ys g2) (hl : ys.length = xs.length) (h2 : ∀ i, i < xs.length → g2 i = 2 * g i) {p p2 : Nat → Nat}
    (hp : ∀ i, i < xs.length → p i < xs.length ∧ Dy .f32 1 (g (p i)) ((filW W H xs).getD i 0) ∧ P32 ((filW W H xs).getD i 0) = P32 (xs.getD (p i) 0) ∧ g i ≤ g (p i) ∧ (edB W H i = true → g (p i) = g i))
    (hp2 : ∀ i, i < ys.length → p2 i < ys.length ∧ Dy .f32 1 (g2 (p2 i)) ((filW W H ys).getD i 0) ∧ P32 ((filW W H ys).getD i 0) = P32 (ys.getD (p2 i) 0) ∧ g2 i ≤ g2 (p2 i) ∧ (edB W H i = true → g2 (p2 i) = g2 i)) {i : Nat} (hi : i < xs.length) : g2 (p2 i) = 2 * g (p i) := by
  have Kx := filK hx.1
  have Ky := filK hy.1
  rw [hl] at hp2
  have gv : ∀ j, j < xs.length → g2 (p2 j) = 2 * g (p2 j) := fun j hj => h2 _ (hp2 j hj).1
  have up : g (p2 i) ≤ g (p i) := by
    have := Kx.top (fun j => P32 (xs.getD (p2 j) 0)) ⟨fun j hj he => ?_, fun j hj he k hk hO => ?_⟩ i hi
    · exact (dy_le (hx.2 _ (hp2 i hi).1).2.2 (hp i hi).2.1).1 this
    · have e := (hp2 j hj).2.2.2.2 he
      have := gv j hj
      have := h2 j hj
      exact (dy_le (hx.2 _ (hp2 j hj).1).2.2 (hx.2 j hj).2.2).2 (by omega)
    · have n1 := (nbC_lt hx.1 hO).2.2
      have h := Ky.fix j (by rw [hl]; exact hj) he k hk hO
      dsimp only at h ⊢
      have q1 := gv j hj
      have q2 := gv _ n1
      have q3 := h2 j hj
      rcases Int.le_total (P32 ((filW W H ys).getD (nbC W j k).toNat 0)) (P32 (ys.getD j 0)) with m | m
      · have m1 : P32 ((filW W H ys).getD j 0) ≤ P32 (ys.getD j 0) := by omega
        have := (dy_le (hp2 j hj).2.1 (hy.2 j (by rw [hl]; exact hj)).2.2).1 m1
        have := (dy_le (hx.2 _ (hp2 j hj).1).2.2 (hx.2 j hj).2.2).2 (by omega)
        omega
      · have m1 : P32 ((filW W H ys).getD j 0) ≤ P32 ((filW W H ys).getD (nbC W j k).toNat 0) := by omega
        have := (dy_le (hp2 j hj).2.1 (hp2 _ n1).2.1).1 m1
        have := (dy_le (hx.2 _ (hp2 j hj).1).2.2 (hx.2 _ (hp2 _ n1).1).2.2).2 (by omega)
        omega
  have dn : 2 * g (p i) ≤ g2 (p2 i) := by
    have := Ky.top (fun j => P32 (ys.getD (p j) 0)) ⟨fun j hj he => ?_, fun j hj he k hk hO => ?_⟩ i (by rw [hl]; exact hi)
    · have := (dy_le (hy.2 _ (by rw [hl]; exact (hp i hi).1)).2.2 (hp2 i hi).2.1).1 this
      rw [h2 _ (hp i hi).1] at this
      exact this
    · rw [hl] at hj
      have e := (hp j hj).2.2.2.2 he
      have a := h2 _ (hp j hj).1
      have b := h2 j hj
      exact (dy_le (hy.2 _ (by rw [hl]; exact (hp j hj).1)).2.2 (hy.2 j (by rw [hl]; exact hj)).2.2).2 (by omega)
    · rw [hl] at hj
      have n1 := (nbC_lt hx.1 hO).2.2
      have h := Kx.fix j hj he k hk hO
      dsimp only at h ⊢
      have a := h2 _ (hp j hj).1
      have b := h2 j hj
      have c := h2 _ (hp _ n1).1
      rcases Int.le_total (P32 ((filW W H xs).getD (nbC W j k).toNat 0)) (P32 (xs.getD j 0)) with m | m
      · have m1 : P32 ((filW W H xs).getD j 0) ≤ P32 (xs.getD j 0) := by omega
        have := (dy_le (hp j hj).2.1 (hx.2 j hj).2.2).1 m1
        have := (dy_le (hy.2 _ (by rw [hl]; exact (hp j hj).1)).2.2 (hy.2 j (by rw [hl]; exact hj)).2.2).2 (by omega)
        omega
      · have m1 : P32 ((filW W H xs).getD j 0) ≤ P32 ((filW W H xs).getD (nbC W j k).toNat 0) := by omega
        have := (dy_le (hp j hj).2.1 (hp _ n1).2.1).1 m1
        have := (dy_le (hy.2 _ (by rw [hl]; exact (hp j hj).1)).2.2 (hy.2 _ (by rw [hl]; exact (hp _ n1).1)).2.2).2 (by omega)
        omega
  have := gv i hi
  omega

end Go.Proofs.Ytngmlbeafdaolaa
