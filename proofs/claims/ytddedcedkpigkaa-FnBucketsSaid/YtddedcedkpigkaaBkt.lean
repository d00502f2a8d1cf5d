/- What each function of this seat does (Bkt). Printed from templates of this seat's own. -/
import Derived.Test.YtddedcedkpigkaaExp
namespace Go.Proofs.Ytddedcedkpigkaa
open Go.Ax Go.Bx
set_option maxRecDepth 8000
set_option linter.unusedSimpArgs false
set_option linter.unusedVariables false
/-! Buckets. -/
/-- No number, or one that is not below nought. -/
def NG (x : Nat) : Prop := isNaN .f32 x = true ∨ 0 ≤ pos .f32 x
theorem NG.cases {x : Nat} (h : NG x) (hn : isNaN .f32 x = false) : negOf FloatKind.f32.format x = false ∨ rungOf FloatKind.f32.format x = 0 := by
  rcases h with h | h
  · rw [hn] at h; cases h
  · unfold pos sg at h
    cases hs : negOf FloatKind.f32.format x
    · exact .inl rfl
    · rw [hs, if_pos rfl] at h; right; omega
theorem ng_word {s : Bool} {r : Nat} (h : r ≤ FloatKind.f32.format.infRung) (h0 : s = true → r = 0) : NG (FloatKind.f32.format.word s r) := .inr (geZ_word h h0).2.2
theorem ng_nan (op : BinOp) (x y : Nat) (h : isNaN .f32 x = true ∨ isNaN .f32 y = true) : NG (fop op .f32 x y) := by
  left
  have : floatBits op .f32 x y = none := by
    rcases h with h | h
    · exact floatBits_nan_left op y h
    · exact floatBits_nan_right op x h
  unfold fop
  rw [this]
  exact isNaN_qnan .f32
theorem ng_sv {x : Nat} (h : NG x) (hn : isNaN .f32 x = false) : sv .f32 x = (valR .f32 x : Int) := by
  rcases h.cases hn with h1 | h1
  · unfold sv; rw [h1]; rfl
  · unfold sv; rw [val_zero h1]; exact sg_zero _
theorem inf_neg {x : Nat} (h : NG x) (hn : isNaN .f32 x = false) (hi : rungOf FloatKind.f32.format x = FloatKind.f32.format.infRung) : negOf FloatKind.f32.format x = false := by
  have hI : FloatKind.f32.format.infRung = 2139095040 := by decide +kernel
  rcases h.cases hn with h1 | h1
  · exact h1
  · omega
theorem ng_infw (op : BinOp) {x y : Nat} (h : floatBits op .f32 x y = some (FloatKind.f32.format.word false FloatKind.f32.format.infRung)) : NG (fop op .f32 x y) := by
  have : fop op .f32 x y = FloatKind.f32.format.word false FloatKind.f32.format.infRung := by unfold fop; rw [h]; rfl
  rw [this]
  exact ng_word (Nat.le_refl _) fun h => by cases h
theorem ng_none (op : BinOp) {x y : Nat} (h : floatBits op .f32 x y = none) : NG (fop op .f32 x y) := by
  left
  unfold fop
  rw [h]
  exact isNaN_qnan .f32
theorem add_ng {x y : Nat} (hx : NG x) (hy : NG y) : NG (fop .add .f32 x y) := by
  cases nx : isNaN .f32 x with
  | true => exact ng_nan _ _ _ (.inl nx)
  | false =>
  cases ny : isNaN .f32 y with
  | true => exact ng_nan _ _ _ (.inr ny)
  | false =>
  rcases fin_of_nn nx with fx | ix
  · rcases fin_of_nn ny with fy | iy
    · obtain ⟨r, r1, r2, r3, r4⟩ := add_sides fx fy
      rw [r1]
      rw [ng_sv hx nx, ng_sv hy ny] at r1 r3 ⊢
      refine ng_word r2 fun hs => Nat.le_zero.1 (r3 0 ?_)
      split at hs
      · rename_i h0; rw [h0]; exact Nat.zero_le _
      · have := of_decide_eq_true hs; omega
    · have e := read_inf _ (binade_le .f32) iy
      obtain ⟨m, d, e2, _⟩ := read_fin _ fx
      rw [inf_neg hy ny iy] at e
      refine ng_infw .add ?_
      show (FloatKind.f32.format.add x y) = _
      unfold Ieee.Format.add
      rw [e, e2]; rfl
  · have e := read_inf _ (binade_le .f32) ix
    rw [inf_neg hx nx ix] at e
    refine ng_infw .add ?_
    show (FloatKind.f32.format.add x y) = _
    unfold Ieee.Format.add
    rcases fin_of_nn ny with fy | iy
    · obtain ⟨m, d, e2, _⟩ := read_fin _ fy
      rw [e, e2]; rfl
    · have e2 := read_inf _ (binade_le .f32) iy
      rw [inf_neg hy ny iy] at e2
      rw [e, e2]; rfl
/-- A share of what is there, and what is left of it. -/
theorem share_ng {x y : Nat} (hx : NG x) (hy : Unit .f32 false y) : NG (fop .mul .f32 x y) ∧ NG (fop .sub .f32 x (fop .mul .f32 x y)) := by
  obtain ⟨b1, b2, b3, b4⟩ := hy.facts
  cases nx : isNaN .f32 x with
  | true => exact ⟨ng_nan _ _ _ (.inl nx), ng_nan _ _ _ (.inl nx)⟩
  | false =>
  rcases fin_of_nn nx with fx | ix
  · obtain ⟨r, r1, r2, r3, r4⟩ := mul_sides fx b3
    rw [b1, Bool.xor_false] at r1
    have hr : r ≤ rungOf FloatKind.f32.format x := r3 _ (Nat.mul_le_mul_left _ b4)
    have hz : negOf FloatKind.f32.format x = true → r = 0 := fun hs => by
      rcases hx.cases nx with h1 | h1
      · rw [h1] at hs; cases hs
      · omega
    have hri : r < FloatKind.f32.format.infRung := Nat.lt_of_le_of_lt hr fx
    obtain ⟨f1, f2⟩ := word_facts (k := .f32) (s := negOf FloatKind.f32.format x) (r := r) r2
    have hg : NG (fop .mul .f32 x y) := by rw [r1]; exact ng_word r2 hz
    refine ⟨hg, ?_⟩
    have fg : Ax.Fin .f32 (fop .mul .f32 x y) := by unfold Ax.Fin; rw [r1, f2]; exact hri
    have ng : isNaN .f32 (fop .mul .f32 x y) = false := nan_false (Nat.le_of_lt fg)
    obtain ⟨q, q1, q2, q3, q4⟩ := sub_sides fx fg
    have hle : valR .f32 (fop .mul .f32 x y) ≤ valR .f32 x := by
      unfold valR
      rw [r1, f2]
      exact (rungV_le_iff (binade_pos _)).2 hr
    rw [q1]
    rw [ng_sv hx nx, ng_sv hg ng] at q1 q3 ⊢
    refine ng_word q2 fun hs => Nat.le_zero.1 (q3 0 ?_)
    split at hs
    · rename_i h0; rw [h0]; exact Nat.zero_le _
    · have := of_decide_eq_true hs; omega
  · have e := read_inf _ (binade_le .f32) ix
    rw [inf_neg hx nx ix] at e
    obtain ⟨m, d, e2, _⟩ := read_fin _ b3
    rw [b1] at e2
    by_cases hm : m = 0
    · have h0 : floatBits .mul .f32 x y = none := by
        show (FloatKind.f32.format.mul x y) = _
        unfold Ieee.Format.mul
        rw [e, e2]
        simp [Ieee.Datum.product, hm]
      refine ⟨ng_none _ h0, ng_nan _ _ _ (.inr ?_)⟩
      unfold fop; rw [h0]; exact isNaN_qnan .f32
    · have h0 : floatBits .mul .f32 x y = some (FloatKind.f32.format.word false FloatKind.f32.format.infRung) := by
        show (FloatKind.f32.format.mul x y) = _
        unfold Ieee.Format.mul
        rw [e, e2]
        simp [Ieee.Datum.product, hm, Ieee.Format.write]
      refine ⟨ng_infw _ h0, ng_none _ ?_⟩
      have e3 : fop .mul .f32 x y = FloatKind.f32.format.word false FloatKind.f32.format.infRung := by unfold fop; rw [h0]; rfl
      rw [e3]
      show (FloatKind.f32.format.sub x _) = _
      unfold Ieee.Format.sub
      rw [e, read_inf _ (binade_le .f32) (word_facts (k := .f32) (Nat.le_refl _)).2, (word_facts (k := .f32) (Nat.le_refl _)).1]
      rfl
theorem least_ng {x : Nat} (h : NG x) : least x = fin x := by
  unfold least
  cases hf : fin x with
  | false => rfl
  | true =>
    have hn : isNaN .f32 x = false := by
      rw [fin_eq] at hf
      unfold isFin at hf
      exact nan_false (Nat.le_of_lt (of_decide_eq_true hf))
    have h0 : isNaN .f32 (K 0) = false := by unfold K; decide +kernel
    have hp : pos .f32 (K 0) = 0 := by unfold K; decide +kernel
    rw [cmp_geq hn h0, hp]
    rcases h with h | h
    · rw [hn] at h; cases h
    · rw [decide_eq_true h]; rfl
theorem least_geZ {x : Nat} (h : least x = true) (hx : x < 2 ^ 32) : GeZ x ∧ Ax.Fin .f32 x := by
  unfold least at h
  rw [Bool.and_eq_true] at h
  obtain ⟨hf, hg⟩ := h
  rw [fin_eq] at hf
  have hF : rungOf FloatKind.f32.format x < FloatKind.f32.format.infRung := of_decide_eq_true hf
  have hn : isNaN .f32 x = false := nan_false (Nat.le_of_lt hF)
  have h0 : isNaN .f32 (K 0) = false := by unfold K; decide +kernel
  have hp : pos .f32 (K 0) = 0 := by unfold K; decide +kernel
  rw [cmp_geq hn h0, hp] at hg
  exact ⟨⟨hn, hx, of_decide_eq_true hg⟩, hF⟩
theorem above_geZ {x : Nat} (h : above x = true) (hx : x < 2 ^ 32) : GeZ x ∧ Ax.Fin .f32 x := by
  unfold above at h
  rw [Bool.and_eq_true] at h
  obtain ⟨hf, hg⟩ := h
  rw [fin_eq] at hf
  have hF : rungOf FloatKind.f32.format x < FloatKind.f32.format.infRung := of_decide_eq_true hf
  have hn : isNaN .f32 x = false := nan_false (Nat.le_of_lt hF)
  have h0 : isNaN .f32 (K 0) = false := by unfold K; decide +kernel
  have hp : pos .f32 (K 0) = 0 := by unfold K; decide +kernel
  rw [cmp_gtr hn h0, hp] at hg
  have := of_decide_eq_true hg
  exact ⟨⟨hn, hx, by omega⟩, hF⟩
noncomputable def bkX (rate tick : Nat) : Nat := fneg .f32 (fop .mul .f32 rate tick)
noncomputable def bkS (rate tick : Nat) : Nat := fop .sub .f32 one32 (exR (bkX rate tick))
theorem bkX_le {rate tick : Nat} (h1 : least rate = true) (h2 : above tick = true) (l1 : rate < 2 ^ 32) (l2 : tick < 2 ^ 32) : LeZ (bkX rate tick) := by
  obtain ⟨a1, a2⟩ := least_geZ h1 l1
  obtain ⟨b1, b2⟩ := above_geZ h2 l2
  exact neg_ge (mul_ge a1 b1 a2 b2)
theorem bkS_unit {rate tick : Nat} (h : LeZ (bkX rate tick)) : Unit .f32 false (bkS rate tick) := one_sub one32_word (exR_unit h)
noncomputable def bkF (sh : Nat) (p : List Nat × Nat) (k : Nat) : List Nat × Nat :=
  ((p.1.set k (fop .add .f32 (p.1.getD k 0) p.2)).set k (fop .sub .f32 (fop .add .f32 (p.1.getD k 0) p.2) (fop .mul .f32 (fop .add .f32 (p.1.getD k 0) p.2) sh)), fop .mul .f32 (fop .add .f32 (p.1.getD k 0) p.2) sh)
noncomputable def bkI (sh : Nat) (now : List Nat) (fl : Nat) : Nat → List Nat × Nat
  | 0 => (now, fl)
  | k + 1 => bkF sh (bkI sh now fl k) k
noncomputable def bkO (sh : Nat) (st rs : List Nat) : Nat → List Nat × List Nat
  | 0 => (st, [])
  | i + 1 => ((bkI sh (bkO sh st rs i).1 (rs.getD i 0) st.length).1, (bkO sh st rs i).2 ++ [(bkI sh (bkO sh st rs i).1 (rs.getD i 0) st.length).2])
@[simp] theorem bkI_len (sh : Nat) (now : List Nat) (fl : Nat) : ∀ k, (bkI sh now fl k).1.length = now.length
  | 0 => rfl
  | k + 1 => by rw [bkI, bkF, List.length_set, List.length_set, bkI_len sh now fl k]
@[simp] theorem bkO_len (sh : Nat) (st rs : List Nat) : ∀ i, (bkO sh st rs i).1.length = st.length ∧ (bkO sh st rs i).2.length = i
  | 0 => ⟨rfl, rfl⟩
  | i + 1 => by
    have := bkO_len sh st rs i
    rw [bkO]
    exact ⟨by dsimp only; rw [bkI_len, this.1], by simp [this.2]⟩
def NGL (l : List Nat) : Prop := ∀ x ∈ l, NG x
theorem NGL.at {l : List Nat} (h : NGL l) {i : Nat} (hi : i < l.length) : NG (l.getD i 0) := by
  apply h
  rw [List.getD_eq_getElem?_getD, List.getElem?_eq_getElem hi]
  exact List.getElem_mem _
theorem NGL.set {l : List Nat} (h : NGL l) {i v : Nat} (hv : NG v) : NGL (l.set i v) := fun x hx => by
  rcases List.mem_or_eq_of_mem_set hx with h' | h'
  · exact h x h'
  · rw [h']; exact hv
theorem bkI_ng {sh : Nat} (hs : Unit .f32 false sh) {now : List Nat} {fl : Nat} (hn : NGL now) (hf : NG fl) : ∀ k, k ≤ now.length → NGL (bkI sh now fl k).1 ∧ NG (bkI sh now fl k).2
  | 0, _ => ⟨hn, hf⟩
  | k + 1, hk => by
    obtain ⟨ih1, ih2⟩ := bkI_ng hs hn hf k (by omega)
    have h1 := add_ng (ih1.at (i := k) (by rw [bkI_len]; omega)) ih2
    obtain ⟨h2, h3⟩ := share_ng h1 hs
    rw [bkI, bkF]
    exact ⟨(ih1.set h1).set h3, h2⟩
theorem bkO_ng {sh : Nat} (hs : Unit .f32 false sh) {st rs : List Nat} (h1 : NGL st) (h2 : NGL rs) : ∀ i, i ≤ rs.length → NGL (bkO sh st rs i).1
  | 0, _ => h1
  | i + 1, hi => by
    have ih := bkO_ng hs h1 h2 i (by omega)
    rw [bkO]
    exact (bkI_ng hs ih (h2.at (by omega)) st.length (by rw [(bkO_len sh st rs i).1]; exact Nat.le_refl _)).1
theorem leastL_ng {l : List Nat} (h : NGL l) : leastL l = finL l := by
  unfold leastL finL
  rw [Bool.eq_iff_iff, allN_iff, allN_iff]
  constructor
  · intro H i hi; rw [← least_ng (h.at hi)]; exact H i hi
  · intro H i hi; rw [least_ng (h.at hi)]; exact H i hi
theorem NGL.of_least {l : List Nat} (h : leastL l = true) (h32 : ∀ y ∈ l, y < 2 ^ 32) : NGL l := fun x hx => by
  obtain ⟨i, hi, e⟩ := List.getElem_of_mem hx
  have := allN_iff.1 h i hi
  rw [List.getD_eq_getElem?_getD, List.getElem?_eq_getElem hi, Option.getD_some, e] at this
  exact .inr (least_geZ this (h32 x hx)).1.2.2
noncomputable def bkE (st : List Nat) (rate tick : Nat) (rs : List Nat) : Bool := finL (bkO (bkS rate tick) st rs rs.length).1 && finL (bkO (bkS rate tick) st rs rs.length).2
def bkG (st : List Nat) (rate tick : Nat) (rs : List Nat) : Bool := inR (st.length : Int) 1 8 && leastL st && least rate && above tick && rainB rs
noncomputable def bkB (st : List Nat) (rate tick : Nat) (rs : List Nat) : Bool := bkG st rate tick rs && bkE st rate tick rs
noncomputable def bkV (b : Bool) (st : List Nat) (rate tick : Nat) (rs : List Nat) : AV := .tup [.own 0 .f32 (bif b then (bkO (bkS rate tick) st rs rs.length).1 else []), .own 1 .f32 (bif b then (bkO (bkS rate tick) st rs rs.length).2 else []), .bool b]

theorem nop_clone : True := trivial

theorem xClone {xs : List Nat} {t : AV} (hn : xs.length ≤ 1048576) (h0 : 0 < xs.length) : Does Try.prog 41 [.sli .f32 xs t] (.own 0 .f32 xs) := by
  refine Does.of_awp (X := cx 8) Try.func41 rfl (by kernel_rfl) rfl (by simp [cx]) [28] rfl ?_
  conv => whnf
  repeat (first
    | (refine ⟨⟨by kernel_rfl, by kernel_rfl⟩, ?_⟩; conv => whnf)
    | (refine And.intro (by first | omega | (simp; done) | (simp; omega)) ?_; conv => whnf)
    | (refine Or.inl (And.intro (by omega) ?_); conv => whnf))
  all_goals (try (conv => whnf))
  all_goals (repeat' (first | exact True.intro | (refine And.intro ?_ ?_ <;> (conv => whnf))))
  all_goals (first | rfl | (simp_all []; done) | (simp only [cond_true, cond_false, Bool.and_true, Bool.true_and, Bool.and_false, Bool.false_and]; rfl) | (simp_all []; omega))

end Go.Proofs.Ytddedcedkpigkaa
