/- The executor: a region whose order is open: that one walk serves every order. -/
import Derived.Test.YtkjdcbgliekjnaaAxD
namespace Go.Ax
open Go.RowKit (Below)

section
variable {X : Cx} {ops : Array Oper}

theorem pairOk_spec (h : pairOk ops = true) {i j : Nat} {oi oj : Oper} (hi : ops[i]? = some oi) (hj : ops[j]? = some oj) (hij : i < j) :
    (∃ e ∈ oj.after, e.on = i ∧ Region.binds .any e = true) ∨ oi.apart ops oj = true := by
  have hjs : j < ops.size := (Array.getElem?_eq_some_iff.1 hj).1
  unfold pairOk at h
  rw [List.all_eq_true] at h
  have h1 := h j (List.mem_range.2 hjs)
  simp only [hj, Bool.and_eq_true] at h1
  have h2 := h1.2
  rw [List.all_eq_true] at h2
  have h3 := h2 i (List.mem_range.2 hij)
  simp only [hi, Bool.or_eq_true] at h3
  rcases h3 with h3 | h3
  · rw [Array.any_eq_true] at h3
    obtain ⟨k, hk, he⟩ := h3
    simp only [Bool.and_eq_true, beq_iff_eq] at he
    exact .inl ⟨_, Array.getElem_mem hk, he.1, he.2⟩
  · exact .inr h3

def dstOf (ops : Array Oper) (i : Nat) : Option Tmp := (ops[i]?).bind (·.dst)
def clampA (N d : Nat) (y : AV) : AV := if d < N then y else .undef
theorem putA_some (N : Nat) (fr : Fr) (d : Nat) (y : AV) : putA N fr (some d) y = upd fr d (clampA N d y) := by
  unfold putA clampA; dsimp only; split <;> rfl

/-- What stands in each slot when the operations of 'S' have been carried out: what the last of them laid there. -/
def Wr (N : Nat) (ops : Array Oper) (Y : Nat → AV) (fr0 : Fr) (S : Nat → Prop) (fr : Fr) : Prop :=
  ∀ t, ((∀ j, S j → dstOf ops j ≠ some t) → fr t = fr0 t) ∧ (∀ j, S j → dstOf ops j = some t → (∀ j', S j' → dstOf ops j' = some t → j' ≤ j) → fr t = clampA N t (Y j))
theorem exists_max {p : Nat → Prop} : ∀ (n : Nat), (∃ j, p j) → (∀ j, p j → j < n) → ∃ j, p j ∧ ∀ j', p j' → j' ≤ j
  | 0, ⟨j, hj⟩, hb => absurd (hb j hj) (by omega)
  | n + 1, h, hb => by
    by_cases hn : p n
    · exact ⟨n, hn, fun j' hj' => by have := hb j' hj'; omega⟩
    · exact exists_max n h fun j hj => by
        have := hb j hj
        have : j ≠ n := fun e => hn (e ▸ hj)
        omega
theorem Wr.eq {N : Nat} {Y : Nat → AV} {fr0 fr fr' : Fr} {S S' : Nat → Prop} (h : Wr N ops Y fr0 S fr) (h' : Wr N ops Y fr0 S' fr') {t : Nat} (n : Nat) (hn : ∀ j, S j → j < n) (hs : ∀ j, dstOf ops j = some t → (S j ↔ S' j)) : fr t = fr' t := by
  by_cases hex : ∃ j, S j ∧ dstOf ops j = some t
  · obtain ⟨j, ⟨hj, hd⟩, hmax⟩ := exists_max (p := fun j => S j ∧ dstOf ops j = some t) n hex fun j hj => hn j hj.1
    rw [(h t).2 j hj hd fun j' h1 h2 => hmax j' ⟨h1, h2⟩, (h' t).2 j ((hs j hd).1 hj) hd fun j' h1 h2 => hmax j' ⟨(hs j' h2).2 h1, h2⟩]
  · rw [(h t).1 fun j hj hd => hex ⟨j, hj, hd⟩, (h' t).1 fun j hj hd => hex ⟨j, (hs j hd).2 hj, hd⟩]
theorem Wr.step {N : Nat} {Y : Nat → AV} {fr0 fr : Fr} {S S' : Nat → Prop} (h : Wr N ops Y fr0 S fr) {i d : Nat} (hd : dstOf ops i = some d) (hS : ∀ j, S' j ↔ S j ∨ j = i) (hlast : ∀ j, S j → dstOf ops j = some d → j < i) :
    Wr N ops Y fr0 S' (putA N fr (some d) (Y i)) := by
  rw [putA_some]
  intro t
  by_cases ht : t = d
  · subst ht
    refine ⟨fun hno => absurd hd (hno i ((hS i).2 (.inr rfl))), fun j hj hdj hmax => ?_⟩
    have h1 : i ≤ j := hmax i ((hS i).2 (.inr rfl)) hd
    rw [upd_same]
    rcases (hS j).1 hj with hj | rfl
    · have := hlast j hj hdj; omega
    · rfl
  · rw [upd_ne _ _ ht]
    refine ⟨fun hno => (h t).1 fun j hj => hno j ((hS j).2 (.inl hj)), fun j hj hdj hmax => ?_⟩
    rcases (hS j).1 hj with hj | rfl
    · exact (h t).2 j hj hdj fun j' h1 h2 => hmax j' ((hS j').2 (.inl h1)) h2
    · rw [hd] at hdj; cases hdj; exact absurd rfl ht

def guardA (N : Nat) (ops : Array Oper) (fr : Fr) (o : Oper) : Option Bool :=
  match o.guard with
  | none => some true
  | some (j, want) => match (ops[j]?).bind (·.dst) with
    | some d => match (if d < N then fr d else .undef) with
      | .bool b => some (b == want)
      | .skip => some false
      | _ => none
    | none => none
def Fits (X : Cx) (ops : Array Oper) (L : Loc) (o : Oper) (fr : Fr) (y : AV) (os : List (Nat × List AV)) : Prop :=
  (guardA X.N ops fr o = some true ∧ qOp X L o fr fun y' os' => y' = y ∧ os' = os) ∨ (guardA X.N ops fr o = some false ∧ y = .skip ∧ os = [])
theorem Fits.congr {L : Loc} {o : Oper} {fr fr' : Fr} {y : AV} {os : List (Nat × List AV)} (h : Fits X ops L o fr y os) (he : ∀ t ∈ o.looksAt ops, fr t = fr' t) : Fits X ops L o fr' y os := by
  have hg : guardA X.N ops fr o = guardA X.N ops fr' o := by
    unfold guardA
    cases hg : o.guard with
    | none => rfl
    | some p =>
      obtain ⟨j, want⟩ := p
      simp only
      cases hd : (ops[j]?).bind (·.dst) with
      | none => rfl
      | some d =>
        have : fr d = fr' d := he d (by unfold Oper.looksAt; rw [hg]; simp only [hd]; simp)
        simp only [this]
  rcases h with ⟨h1, h2⟩ | ⟨h1, h2, h3⟩
  · refine .inl ⟨by rw [← hg]; exact h1, ?_⟩
    rwa [qOp_congr (fr' := fr')] at h2
    intro x hx
    cases x with
    | tmp t => exact he t (by unfold Oper.looksAt; exact List.mem_append_left _ (List.mem_filterMap.2 ⟨.tmp t, by simpa using hx, rfl⟩))
    | const v => rfl
    | global g => rfl
    | func f => rfl
  · exact .inr ⟨by rw [← hg]; exact h1, h2, h3⟩

/-- What the walk in the order of the text shows of operation 'i'. -/
def Row (X : Cx) (ops : Array Oper) (Y : Nat → AV) (O : Nat → List (Nat × List AV)) (F : Nat → Fr) (Ls : Nat → Loc) (i : Nat) (o : Oper) : Prop :=
  ∃ d, o.dst = some d ∧ Fits X ops (Ls i) o (F i) (Y i) (O i) ∧ freeB d (Ls i) (O i) = true ∧ F (i + 1) = putA X.N (F i) (some d) (Y i) ∧ Ls (i + 1) = adoptL d (Ls i) (O i)

theorem lexD_row {o : Oper} {rest : List Oper} {fr : Fr} {L : Loc} {K : Fr → Loc → Prop} (h : lexD X ops (o :: rest) fr L K) :
    ∃ d y os, o.dst = some d ∧ Fits X ops L o fr y os ∧ freeB d L os = true ∧ lexD X ops rest (putA X.N fr (some d) y) (adoptL d L os) K := by
  have key : ∀ {d0 : Nat} {fr' : Fr}, fr' = fr → (qOp X L o fr' fun y os => forceA y fun y => match freeB d0 L os with
        | true => putK X.N fr' (some d0) y fun fr => adoptK d0 L os fun L => lexD X ops rest fr L K
        | false => False) → ∃ y os, (qOp X L o fr fun y' os' => y' = y ∧ os' = os) ∧ freeB d0 L os = true ∧ lexD X ops rest (putA X.N fr (some d0) y) (adoptL d0 L os) K := by
    intro d0 fr' e hq
    subst e
    obtain ⟨y, os, hK, hy⟩ := qOp_ex hq
    rw [forceA_eq] at hK
    split at hK
    · rename_i hf; rw [putK_eq, adoptK_eq] at hK; exact ⟨y, os, hy, hf, hK⟩
    · exact hK.elim
  unfold lexD at h
  split at h
  · exact h.elim
  · rename_i d0 hd0
    split at h
    · rename_i hg
      obtain ⟨y, os, h1, h2, h3⟩ := key rfl h
      exact ⟨d0, y, os, hd0, .inl ⟨by simp [guardA, hg], h1⟩, h2, h3⟩
    · rename_i j want hg
      split at h
      · rename_i d hd
        split at h
        · rename_i b hb
          have hfd : fr d = .bool b := by
            split at hb
            · exact hb
            · cases hb
          have hga : guardA X.N ops fr o = some (b == want) := by simp only [guardA, hg, hd, hb]
          have hu : ∀ c, b = c → upd fr d (.bool c) = fr := fun c e => by rw [← e, ← hfd, upd_self]
          cases want <;> simp only at h <;> replace h := br_elim h <;> cases b
          · obtain ⟨y, os, h1, h2, h3⟩ := key (hu false rfl) (h.2 rfl)
            exact ⟨d0, y, os, hd0, .inl ⟨hga, h1⟩, h2, h3⟩
          · have := h.1 rfl
            rw [hu true rfl, putK_eq] at this
            exact ⟨d0, .skip, [], hd0, .inr ⟨hga, rfl, rfl⟩, rfl, this⟩
          · have := h.2 rfl
            rw [hu false rfl, putK_eq] at this
            exact ⟨d0, .skip, [], hd0, .inr ⟨hga, rfl, rfl⟩, rfl, this⟩
          · obtain ⟨y, os, h1, h2, h3⟩ := key (hu true rfl) (h.1 rfl)
            exact ⟨d0, y, os, hd0, .inl ⟨hga, h1⟩, h2, h3⟩
        · rename_i hb
          rw [putK_eq] at h
          exact ⟨d0, .skip, [], hd0, .inr ⟨by simp only [guardA, hg, hd, hb], rfl, rfl⟩, rfl, h⟩
        · exact h.elim
      · exact h.elim
theorem lexD_tab {K : Fr → Loc → Prop} : ∀ (l : List Oper) (k : Nat) (fr : Fr) (L : Loc), (∀ j, l[j]? = ops[k + j]?) → lexD X ops l fr L K →
    ∃ Y O F Ls, F k = fr ∧ Ls k = L ∧ (∀ i o, k ≤ i → ops[i]? = some o → Row X ops Y O F Ls i o) ∧ K (F (k + l.length)) (Ls (k + l.length))
  | [], k, fr, L, hl, h => by
    refine ⟨fun _ => .undef, fun _ => [], fun _ => fr, fun _ => L, rfl, rfl, fun i o hi ho => ?_, h⟩
    have := hl (i - k)
    rw [show k + (i - k) = i by omega, ho] at this
    simp at this
  | o :: l, k, fr, L, hl, h => by
    obtain ⟨d, y, os, hd, hf, hfree, hnext⟩ := lexD_row h
    obtain ⟨Y, O, F, Ls, hF, hLs, hrow, hK⟩ := lexD_tab l (k + 1) _ _ (fun j => by have := hl (j + 1); simpa [Nat.add_assoc, Nat.add_comm 1 j] using this) hnext
    refine ⟨fun i => if i = k then y else Y i, fun i => if i = k then os else O i, fun i => if i = k then fr else F i, fun i => if i = k then L else Ls i, by simp, by simp, fun i o' hi ho' => ?_, ?_⟩
    · by_cases hik : i = k
      · subst hik
        have h0 := hl 0
        simp only [Nat.add_zero, List.getElem?_cons_zero] at h0
        rw [ho'] at h0; cases h0
        refine ⟨d, hd, by simpa using hf, by simpa using hfree, ?_, ?_⟩
        · simp [hF]
        · simp [hLs]
      · obtain ⟨d', h1, h2, h3, h4, h5⟩ := hrow i o' (by omega) ho'
        refine ⟨d', h1, by simpa [hik] using h2, by simpa [hik] using h3, ?_, ?_⟩
        · simp only [hik, if_false]; rw [if_neg (by omega)]; exact h4
        · simp only [hik, if_false]; rw [if_neg (by omega)]; exact h5
    · rw [List.length_cons, show k + (l.length + 1) = k + 1 + l.length by omega]
      simp only
      rw [if_neg (by omega), if_neg (by omega)]
      exact hK

/-! ### The blocks -/
theorem adoptL_gen_le (t k : Nat) : ∀ (os : List (Nat × List AV)) (L : Loc), (L k).1 ≤ (adoptL t L os k).1
  | [], _ => Nat.le_refl _
  | (i, cells) :: os, L => by
    rw [adoptL_cons]
    refine Nat.le_trans ?_ (adoptL_gen_le t k os _)
    by_cases h : k = t * 4 + i
    · rw [h, upd_same]; simp
    · rw [upd_ne _ _ h]; exact Nat.le_refl _
theorem adoptL_gen (t : Nat) : ∀ (os : List (Nat × List AV)) (L : Loc), ∀ p ∈ os, (L (t * 4 + p.1)).1 < (adoptL t L os (t * 4 + p.1)).1
  | [], _, p, hp => by cases hp
  | (i, cells) :: os, L, p, hp => by
    rw [adoptL_cons]
    rcases List.mem_cons.1 hp with rfl | hp
    · have := adoptL_gen_le t (t * 4 + i) os (upd L (t * 4 + i) ((L (t * 4 + i)).1 + 1, some cells))
      rw [upd_same] at this
      simp only at this ⊢
      omega
    · refine Nat.lt_of_le_of_lt ?_ (adoptL_gen t os _ p hp)
      by_cases h : t * 4 + p.1 = t * 4 + i
      · rw [h, upd_same]; simp
      · rw [upd_ne _ _ h]; exact Nat.le_refl _
theorem adoptL_live_of (t k : Nat) : ∀ (os : List (Nat × List AV)) (L : Loc), (L k).2.isSome = true → (adoptL t L os k).2.isSome = true
  | [], _, h => h
  | (i, cells) :: os, L, h => by
    rw [adoptL_cons]
    refine adoptL_live_of t k os _ ?_
    by_cases hk : k = t * 4 + i
    · rw [hk, upd_same]; rfl
    · rw [upd_ne _ _ hk]; exact h
theorem adoptL_live (t : Nat) : ∀ (os : List (Nat × List AV)) (L : Loc), ∀ p ∈ os, (adoptL t L os (t * 4 + p.1)).2.isSome = true
  | [], _, p, hp => by cases hp
  | (i, cells) :: os, L, p, hp => by
    rw [adoptL_cons]
    rcases List.mem_cons.1 hp with rfl | hp
    · exact adoptL_live_of t _ os _ (by rw [upd_same]; rfl)
    · exact adoptL_live t os _ p hp
theorem adoptL_congr (t k : Nat) : ∀ (os : List (Nat × List AV)) (L L' : Loc), L k = L' k → adoptL t L os k = adoptL t L' os k
  | [], _, _, h => h
  | (i, cells) :: os, L, L', h => by
    rw [adoptL_cons, adoptL_cons]
    refine adoptL_congr t k os _ _ ?_
    by_cases hk : k = t * 4 + i
    · rw [hk, upd_same, upd_same, ← hk, h]
    · rw [upd_ne _ _ hk, upd_ne _ _ hk, h]
theorem freeB_spec {t : Nat} {L : Loc} : ∀ {os : List (Nat × List AV)}, freeB t L os = true → ∀ p ∈ os, p.1 < 4 ∧ (L (t * 4 + p.1)).2 = none
  | [], _, p, hp => by cases hp
  | (i, cells) :: os, h, p, hp => by
    simp only [freeB, Bool.and_eq_true, Nat.blt_eq, Option.isNone_iff_eq_none] at h
    rcases List.mem_cons.1 hp with rfl | hp
    · exact ⟨h.1.1, h.1.2⟩
    · exact freeB_spec h.2 p hp

def keyOf (ops : Array Oper) (i c : Nat) : Nat := ((dstOf ops i).getD 0) * 4 + c
section
variable {Y : Nat → AV} {O : Nat → List (Nat × List AV)} {F : Nat → Fr} {Ls : Nat → Loc} {n : Nat} (hn : n ≤ ops.size) (hrow : ∀ i o, i < n → ops[i]? = some o → Row X ops Y O F Ls i o)
include hn hrow

theorem rows_at {i : Nat} (hi : i < n) : ∃ o d, ops[i]? = some o ∧ o.dst = some d ∧ dstOf ops i = some d ∧ Fits X ops (Ls i) o (F i) (Y i) (O i) ∧ freeB d (Ls i) (O i) = true ∧ F (i + 1) = putA X.N (F i) (some d) (Y i) ∧ Ls (i + 1) = adoptL d (Ls i) (O i) := by
  have ho : ops[i]? = some ops[i] := Array.getElem?_eq_getElem (by omega)
  obtain ⟨d, h1, h2, h3, h4, h5⟩ := hrow i _ hi ho
  exact ⟨_, d, ho, h1, by simp [dstOf, ho, h1], h2, h3, h4, h5⟩
theorem live_later {i : Nat} (hi : i < n) {p : Nat × List AV} (hp : p ∈ O i) : ∀ j, i < j → j ≤ n → Ls j (keyOf ops i p.1) = Ls (i + 1) (keyOf ops i p.1) ∧ (Ls j (keyOf ops i p.1)).2.isSome = true := by
  obtain ⟨o, d, ho, hd, hdo, hf, hfree, hF, hL⟩ := rows_at hn hrow hi
  intro j
  induction j with
  | zero => intro h; omega
  | succ j ih =>
    intro h1 h2
    by_cases e : j = i
    · subst e
      refine ⟨rfl, ?_⟩
      rw [hL]; simp only [keyOf, hdo, Option.getD_some]; exact adoptL_live d _ _ p hp
    · obtain ⟨h3, h4⟩ := ih (by omega) (by omega)
      obtain ⟨o', d', ho', hd', hdo', hf', hfree', hF', hL'⟩ := rows_at hn hrow (i := j) (by omega)
      have : Ls (j + 1) (keyOf ops i p.1) = Ls j (keyOf ops i p.1) := by
        rw [hL']
        refine adoptL_other d' _ _ _ fun q hq e' => ?_
        have := (freeB_spec hfree' q hq).2
        rw [e'] at this
        rw [this] at h4; cases h4
      rw [this]; exact ⟨h3, h4⟩
theorem key_one {i j : Nat} (hi : i < n) (hj : j < n) {p q : Nat × List AV} (hp : p ∈ O i) (hq : q ∈ O j) (e : keyOf ops i p.1 = keyOf ops j q.1) : i = j := by
  have aux : ∀ {i j : Nat}, i < n → j < n → ∀ {p q : Nat × List AV}, p ∈ O i → q ∈ O j → keyOf ops i p.1 = keyOf ops j q.1 → ¬ i < j := by
    intro i j hi hj p q hp hq e hlt
    obtain ⟨h3, h4⟩ := live_later hn hrow hi hp j hlt (by omega)
    obtain ⟨o', d', ho', hd', hdo', hf', hfree', hF', hL'⟩ := rows_at hn hrow hj
    have := (freeB_spec hfree' q hq).2
    have e' : keyOf ops j q.1 = d' * 4 + q.1 := by simp [keyOf, hdo']
    rw [e, e', this] at h4; cases h4
  have h1 := aux hi hj hp hq e
  have h2 := aux hj hi hq hp e.symm
  omega
theorem untouched {k : Nat} : ∀ i, i ≤ n → (∀ j p, j < i → p ∈ O j → keyOf ops j p.1 ≠ k) → Ls i k = Ls 0 k
  | 0, _, _ => rfl
  | i + 1, hi, h => by
    obtain ⟨o, d, ho, hd, hdo, hf, hfree, hF, hL⟩ := rows_at hn hrow (i := i) (by omega)
    rw [hL, adoptL_other d k _ _ fun p hp e => h i p (by omega) hp (by simpa [keyOf, hdo] using e)]
    exact untouched i (by omega) fun j p hj hp => h j p (by omega) hp
theorem frames : ∀ i, i ≤ n → Wr X.N ops Y (F 0) (fun j => j < i) (F i)
  | 0, _ => fun t => ⟨fun _ => rfl, fun j hj => absurd hj (by omega)⟩
  | i + 1, hi => by
    obtain ⟨o, d, ho, hd, hdo, hf, hfree, hF, hL⟩ := rows_at hn hrow (i := i) (by omega)
    rw [hF]
    exact (frames i (by omega)).step hdo (fun j => by omega) fun j hj _ => hj
end

/-! ### Counting -/
def cnt (l : Nat → Bool) : Nat → Nat
  | 0 => 0
  | n + 1 => cnt l n + if l n then 0 else 1
theorem cnt_le (l : Nat → Bool) : ∀ n, cnt l n ≤ n
  | 0 => Nat.le_refl _
  | n + 1 => by have := cnt_le l n; simp only [cnt]; split <;> omega
theorem cnt_same {l l' : Nat → Bool} {i : Nat} (h : ∀ j, j ≠ i → l' j = l j) : ∀ n, n ≤ i → cnt l' n = cnt l n
  | 0, _ => rfl
  | n + 1, hn => by simp only [cnt]; rw [cnt_same h n (by omega), h n (by omega)]
theorem cnt_set {l l' : Nat → Bool} {i : Nat} (h : ∀ j, j ≠ i → l' j = l j) (h0 : l i = false) (h1 : l' i = true) : ∀ n, i < n → cnt l' n + 1 = cnt l n
  | 0, hn => absurd hn (by omega)
  | n + 1, hn => by
    simp only [cnt]
    by_cases e : n = i
    · subst e; rw [cnt_same h n (Nat.le_refl _), h0, h1]; simp
    · rw [h n e]; have := cnt_set h h0 h1 n (by omega); omega
theorem cnt_zero {l : Nat → Bool} : ∀ n, cnt l n = 0 → ∀ j, j < n → l j = true
  | 0, _, j, hj => absurd hj (by omega)
  | n + 1, h, j, hj => by
    simp only [cnt] at h
    by_cases e : j = n
    · subst e; cases hl : l j
      · rw [hl] at h; simp at h
      · rfl
    · exact cnt_zero n (by omega) j (by omega)

theorem guardA_wanted {B : Nat} {Tg : AV → Value → Prop} {w0 w : World} {m : Mp} {L : Loc} {fr : Fr} {a : Act} (h : Rel B Tg X.N w0 m fr L a w) {o : Oper} {b : Bool} (hg : guardA X.N ops fr o = some b) :
    Region.wanted o (yielded ops a.tmps) = b := by
  unfold guardA at hg
  split at hg
  · rename_i h0; cases hg; simp [Region.wanted, h0]
  · rename_i j want h0
    split at hg
    · rename_i d hd
      split at hg
      · rename_i c hc; cases hg; exact guard_yes h h0 hd hc
      · rename_i hc; cases hg; exact guard_skip h h0 hd hc
      · cases hg
    · cases hg

/-- The state half way: what has been listed, in whatever order. -/
structure Half (X : Cx) (ops : Array Oper) (Y : Nat → AV) (O : Nat → List (Nat × List AV)) (F : Nat → Fr) (Ls : Nat → Loc) (n : Nat) (S : Nat → Bool) (fr : Fr) (L : Loc) : Prop where
  small : ∀ j, S j = true → j < n
  closed : ∀ j o, ops[j]? = some o → S j = true → ∀ e ∈ o.after, Region.binds .any e = true → S e.on = true
  wr : Wr X.N ops Y (F 0) (fun j => S j = true) fr
  old : ∀ k, (∀ j p, S j = true → p ∈ O j → keyOf ops j p.1 ≠ k) → L k = Ls 0 k
  new : ∀ j p, S j = true → p ∈ O j → L (keyOf ops j p.1) = Ls n (keyOf ops j p.1)

section
variable {Y : Nat → AV} {O : Nat → List (Nat × List AV)} {F : Nat → Fr} {Ls : Nat → Loc} {n : Nat} {S S' : Nat → Bool} {fr : Fr} {L : Loc}
theorem Half.before (hp : pairOk ops = true) (hH : Half X ops Y O F Ls n S fr L) {i : Nat} {o : Oper} (ho : ops[i]? = some o) (hi : S i = false) (hready : ∀ e ∈ o.after, Region.binds .any e = true → S e.on = true)
    {j : Nat} {oj : Oper} (hoj : ops[j]? = some oj) (h1 : oj.apart ops o = true → False) (h2 : o.apart ops oj = true → False) : S j = true ↔ j < i := by
  constructor
  · intro hj
    rcases Nat.lt_trichotomy j i with h | h | h
    · exact h
    · subst h; rw [hi] at hj; cases hj
    · rcases pairOk_spec hp ho hoj h with ⟨e, he, he1, he2⟩ | h'
      · have := hH.closed j oj hoj hj e he he2
        rw [he1, hi] at this; cases this
      · exact (h2 h').elim
  · intro hj
    rcases pairOk_spec hp hoj ho hj with ⟨e, he, he1, he2⟩ | h'
    · rw [← he1]; exact hready e he he2
    · exact (h1 h').elim
theorem four_eq {a b x y : Nat} (h : a * 4 + x = b * 4 + y) (hx : x < 4) (hy : y < 4) : a = b := by omega
theorem dstOf_get {j t : Nat} (h : dstOf ops j = some t) : ∃ oj, ops[j]? = some oj ∧ oj.dst = some t := by
  unfold dstOf at h
  cases ho : ops[j]? with
  | none => rw [ho] at h; cases h
  | some oj => rw [ho] at h; exact ⟨oj, rfl, h⟩

variable (hn : n ≤ ops.size) (hrow : ∀ i o, i < n → ops[i]? = some o → Row X ops Y O F Ls i o)
include hn hrow
theorem Half.key (hH : Half X ops Y O F Ls n S fr L) {i k : Nat} (hi : i < n) (hk : ∀ j p, j < n → p ∈ O j → keyOf ops j p.1 = k → (S j = true ↔ j < i)) : L k = Ls i k := by
  by_cases hex : ∃ j p, j < n ∧ p ∈ O j ∧ keyOf ops j p.1 = k
  · obtain ⟨j, p, hj, hpo, hkey⟩ := hex
    by_cases hji : j < i
    · have := hH.new j p ((hk j p hj hpo hkey).2 hji) hpo
      rw [← hkey, this, (live_later hn hrow hj hpo n hj (Nat.le_refl _)).1, (live_later hn hrow hj hpo i hji (by omega)).1]
    · have h1 : L k = Ls 0 k := hH.old k fun j' p' hj' hp' e => by
        have := key_one hn hrow (hH.small j' hj') hj hp' hpo (e.trans hkey.symm)
        subst this
        exact hji ((hk j' p hj hpo hkey).1 hj')
      have h2 : Ls i k = Ls 0 k := untouched hn hrow i (by omega) fun j' p' hj' hp' e => by
        have := key_one hn hrow (i := j') (by omega) hj hp' hpo (e.trans hkey.symm)
        omega
      rw [h1, h2]
  · rw [hH.old k fun j p hj hp e => hex ⟨j, p, hH.small j hj, hp, e⟩, untouched hn hrow i (by omega) fun j p hj hp e => hex ⟨j, p, by omega, hp, e⟩]
theorem Half.ext (hH : Half X ops Y O F Ls n S fr L) {i : Nat} (hi : i < n) : Ext (Ls i) L := by
  intro k c hc hg
  refine hH.key hn hrow hi fun j p hj hpo hkey => ?_
  obtain ⟨o, d, ho, hd, hdo, hf, hfree, hF, hL⟩ := rows_at hn hrow hj
  have hkd : k = d * 4 + p.1 := by rw [← hkey]; simp [keyOf, hdo]
  have h0 : ∀ i', i' ≤ j → Ls i' k = Ls 0 k := fun i' hi' => untouched hn hrow i' (by omega) fun j' p' hj' hp' e => by
    have := key_one hn hrow (i := j') (by omega) hj hp' hpo (e.trans hkey.symm)
    omega
  rcases Nat.lt_or_ge j i with h | h
  · refine ⟨fun _ => h, fun _ => ?_⟩
    cases hs : S j with
    | true => rfl
    | false =>
      exfalso
      have h1 : L k = Ls 0 k := hH.old k fun j' p' hj' hp' e => by
        have := key_one hn hrow (hH.small j' hj') hj hp' hpo (e.trans hkey.symm)
        subst this; rw [hs] at hj'; cases hj'
      have h2 := (live_later hn hrow hj hpo i h (by omega)).1
      rw [hkey] at h2
      have h3 := adoptL_gen d (O j) (Ls j) p hpo
      rw [← hL, ← hkd, ← h2, h0 j (Nat.le_refl _), ← h1] at h3
      omega
  · exfalso
    have h2 := (freeB_spec hfree p hpo).2
    rw [← hkd, h0 j (Nat.le_refl _), ← h0 i h] at h2
    rw [h2] at hc; cases hc

theorem Half.looks (hp : pairOk ops = true) (hH : Half X ops Y O F Ls n S fr L) {i : Nat} {o : Oper} (hin : i < n) (ho : ops[i]? = some o) (hi : S i = false) (hready : ∀ e ∈ o.after, Region.binds .any e = true → S e.on = true) :
    ∀ t ∈ o.looksAt ops, F i t = fr t := by
  intro t ht
  refine (Wr.eq hH.wr (frames hn hrow i (by omega)) n hH.small fun j hj => ?_).symm
  obtain ⟨oj, hoj, hd⟩ := dstOf_get hj
  exact hH.before hp ho hi hready hoj (fun h => (Oper.apart_spec h).1 t hd ht) (fun h => (Oper.apart_spec h).2.2 t hd ht)
omit hn hrow in
theorem Half.own (hp : pairOk ops = true) (hH : Half X ops Y O F Ls n S fr L) {i d : Nat} {o : Oper} (ho : ops[i]? = some o) (hi : S i = false) (hready : ∀ e ∈ o.after, Region.binds .any e = true → S e.on = true) (hd : o.dst = some d) :
    ∀ j, dstOf ops j = some d → (S j = true ↔ j < i) := by
  intro j hj
  obtain ⟨oj, hoj, hdj⟩ := dstOf_get hj
  exact hH.before hp ho hi hready hoj (fun h => (Oper.apart_spec h).2.1 d hdj hd) (fun h => (Oper.apart_spec h).2.1 d hd hdj)
theorem Half.step (hp : pairOk ops = true) (hH : Half X ops Y O F Ls n S fr L) {i d : Nat} {o : Oper} (hin : i < n) (ho : ops[i]? = some o) (hi : S i = false) (hready : ∀ e ∈ o.after, Region.binds .any e = true → S e.on = true) (hd : o.dst = some d)
    (hS : S' i = true) (hS' : ∀ j, j ≠ i → S' j = S j) : Half X ops Y O F Ls n S' (putA X.N fr (some d) (Y i)) (adoptL d L (O i)) := by
  have hiff : ∀ j, S' j = true ↔ S j = true ∨ j = i := fun j => by
    by_cases e : j = i
    · subst e; simp [hS]
    · rw [hS' j e]; simp [e]
  obtain ⟨o', d', ho', hd', hdo, hf, hfree, hF, hL⟩ := rows_at hn hrow hin
  rw [ho] at ho'; cases ho'
  rw [hd] at hd'; cases hd'
  have hown := hH.own hp ho hi hready hd
  have hkeyd : ∀ p ∈ O i, keyOf ops i p.1 = d * 4 + p.1 := fun p _ => by simp [keyOf, hdo]
  refine ⟨fun j hj => ?_, fun j oj hoj hj e he hb => ?_, hH.wr.step hdo hiff fun j h1 h2 => (hown j h2).1 h1, fun k hk => ?_, fun j p hj hpo => ?_⟩
  · rcases (hiff j).1 hj with h | rfl
    · exact hH.small j h
    · exact hin
  · rcases (hiff j).1 hj with h | rfl
    · exact (hiff _).2 (.inl (hH.closed j oj hoj h e he hb))
    · rw [ho] at hoj; cases hoj
      exact (hiff _).2 (.inl (hready e he hb))
  · rw [adoptL_other d k _ _ fun p hp' e => hk i p hS hp' (by rw [hkeyd p hp', e])]
    exact hH.old k fun j p hj hpo => hk j p ((hiff j).2 (.inl hj)) hpo
  · by_cases e : j = i
    · subst e
      rw [hkeyd p hpo, ← hkeyd p hpo, (live_later hn hrow hin hpo n hin (Nat.le_refl _)).1, hL]
      refine adoptL_congr d _ _ _ _ (hH.key hn hrow hin fun j' p' hj' hp' e' => ?_)
      refine hown j' ?_
      obtain ⟨o2, d2, ho2, hd2, hdo2, hf2, hfree2, hF2, hL2⟩ := rows_at hn hrow hj'
      have h4 := (freeB_spec hfree2 p' hp').1
      have h5 := (freeB_spec hfree p hpo).1
      rw [hkeyd p hpo] at e'
      simp only [keyOf, hdo2, Option.getD_some] at e'
      rw [hdo2, four_eq e' h4 (by assumption)]
    · have hj' : S j = true := by rcases (hiff j).1 hj with h | h; exact h; exact absurd h e
      rw [adoptL_other d _ _ _ fun q hq e' => ?_]
      · exact hH.new j p hj' hpo
      · rw [← hkeyd q hq] at e'
        exact e (key_one hn hrow (hH.small j hj') hin hpo hq e'.symm)
theorem Half.gens (hp : pairOk ops = true) (hH : Half X ops Y O F Ls n S fr L) {i d : Nat} {o : Oper} (hin : i < n) (ho : ops[i]? = some o) (hi : S i = false) (hready : ∀ e ∈ o.after, Region.binds .any e = true → S e.on = true) (hd : o.dst = some d) (c : Nat) (hc : c < 4) :
    L (d * 4 + c) = Ls i (d * 4 + c) := by
  refine hH.key hn hrow hin fun j' p' hj' hp' e' => ?_
  refine hH.own hp ho hi hready hd j' ?_
  obtain ⟨o2, d2, ho2, hd2, hdo2, hf2, hfree2, hF2, hL2⟩ := rows_at hn hrow hj'
  have h4 := (freeB_spec hfree2 p' hp').1
  simp only [keyOf, hdo2, Option.getD_some] at e'
  rw [hdo2, four_eq e' h4 (by assumption)]
end

section
variable {B : Nat} {Tg : AV → Value → Prop} {w0 : World} {Q : Exit → Act → World → Prop} {K : Fr → Loc → Prop}
variable {Y : Nat → AV} {O : Nat → List (Nat × List AV)} {F : Nat → Fr} {Ls : Nat → Loc} {n : Nat}
theorem wpAny_of (hG : ∀ f ∈ X.cs, Good X.P X.env f) (hp : pairOk ops = true) (hn : n ≤ ops.size) (hrow : ∀ i o, i < n → ops[i]? = some o → Row X ops Y O F Ls i o)
    (hend : n = ops.size → ∀ m a w, Rel B Tg X.N w0 m (F n) (Ls n) a w → Q .normal a w)
    (hlast : n ≠ ops.size → n + 1 = ops.size ∧ ∀ o, ops[n]? = some o → o.guard = none ∧ (∀ i, i < n → ∃ e ∈ o.after, Region.binds .any e = true ∧ e.on = i) ∧
      ∀ m a w, Rel B Tg X.N w0 m (F n) (Ls n) a w → ∀ K' : Act → World → Prop, (∀ a w, Q .normal a w → K' a w) → o.wp X.P a w K' Q) :
    ∀ (fuel : Nat) (listed : Array Bool) {m : Mp} {fr : Fr} {L : Loc} {a : Act} {w : World}, listed.size = ops.size → cnt (fun j => listed.getD j false) ops.size ≤ fuel → Half X ops Y O F Ls n (fun j => listed.getD j false) fr L → Rel B Tg X.N w0 m fr L a w →
    wpAny X.P .any ops Q fuel listed a w := by
  have hfull : ∀ (listed : Array Bool) {fr : Fr} {L : Loc}, Half X ops Y O F Ls n (fun j => listed.getD j false) fr L → (∀ j, j < n → listed.getD j false = true) → fr = F n ∧ L = Ls n := by
    intro listed fr L hH hall
    refine ⟨funext fun t => Wr.eq hH.wr (frames hn hrow n (Nat.le_refl _)) n hH.small fun j _ => ⟨fun h => hH.small j h, fun h => hall j h⟩, funext fun k => ?_⟩
    by_cases hex : ∃ j p, j < n ∧ p ∈ O j ∧ keyOf ops j p.1 = k
    · obtain ⟨j, p, hj, hpo, rfl⟩ := hex
      exact hH.new j p (hall j hj) hpo
    · rw [hH.old k fun j p hj hp e => hex ⟨j, p, hH.small j hj, hp, e⟩, untouched hn hrow n (Nat.le_refl _) fun j p hj hp e => hex ⟨j, p, hj, hp, e⟩]
  have hnone : ∀ (listed : Array Bool), listed.size = ops.size → Region.ready .any ops listed = [] → ∀ j, j < ops.size → listed.getD j false = true := by
    intro listed hsz hr j
    induction j using Nat.strongRecOn with
    | _ j ih =>
      intro hj
      cases hl : listed.getD j false with
      | true => rfl
      | false =>
        exfalso
        have ho : ops[j]? = some ops[j] := Array.getElem?_eq_getElem (by omega)
        have : j ∈ Region.ready .any ops listed := mem_ready.2 ⟨by rw [← hl, Array.getD_eq_getD_getElem?, Array.getD_eq_getD_getElem?, Array.getElem?_eq_getElem (by omega)]; rfl, _, ho, fun e he hb => by
          have hlt : e.on < j := by
            unfold pairOk at hp
            rw [List.all_eq_true] at hp
            have h1 := hp j (List.mem_range.2 (by omega))
            simp only [ho, Bool.and_eq_true] at h1
            have h2 := Array.all_eq_true_iff_forall_mem.1 h1.1 e he
            rw [hb] at h2
            simpa using h2
          exact ih _ hlt (by omega)⟩
        rw [hr] at this; cases this
  have hstop : ∀ (listed : Array Bool) {m : Mp} {fr : Fr} {L : Loc} {a : Act} {w : World}, listed.size = ops.size → Region.ready .any ops listed = [] → Half X ops Y O F Ls n (fun j => listed.getD j false) fr L → Rel B Tg X.N w0 m fr L a w → Q .normal a w := by
    intro listed m fr L a w hsz hr hH h
    have hall := hnone listed hsz hr
    obtain ⟨rfl, rfl⟩ := hfull listed hH fun j hj => hall j (by omega)
    by_cases hns : n = ops.size
    · exact hend hns _ _ _ h
    · have := hH.small n (hall n (by omega)); omega
  have hall0 : ∀ (fuel : Nat) (listed : Array Bool) (a : Act) (w : World), listed.size = ops.size → (∀ j, j < ops.size → listed.getD j false = true) → Q .normal a w → wpAny X.P .any ops Q fuel listed a w := by
    intro fuel listed a w hsz hall hq
    have hr : Region.ready .any ops listed = [] := by
      refine List.eq_nil_iff_forall_not_mem.2 fun j hj => ?_
      obtain ⟨h0, o, ho, _⟩ := mem_ready.1 hj
      have hjn : j < ops.size := (Array.getElem?_eq_some_iff.1 ho).1
      have := hall j hjn
      rw [Array.getD_eq_getD_getElem?, Array.getElem?_eq_getElem (by omega)] at this h0
      simp only [Option.getD_some] at this h0
      rw [this] at h0; cases h0
    cases fuel with
    | zero => exact ⟨hr, hq⟩
    | succ fuel => exact ⟨fun _ => hq, fun i hi => by rw [hr] at hi; cases hi⟩
  intro fuel
  induction fuel with
  | zero =>
    intro listed m fr L a w hsz hc hH h
    have hr : Region.ready .any ops listed = [] := by
      refine List.eq_nil_iff_forall_not_mem.2 fun j hj => ?_
      obtain ⟨h0, o, ho, _⟩ := mem_ready.1 hj
      have hjn : j < ops.size := (Array.getElem?_eq_some_iff.1 ho).1
      have := cnt_zero ops.size (Nat.le_zero.1 hc) j hjn
      rw [Array.getD_eq_getD_getElem?, Array.getElem?_eq_getElem (by omega)] at this h0
      simp only [Option.getD_some] at this h0
      rw [this] at h0; cases h0
    exact ⟨hr, hstop listed hsz hr hH h⟩
  | succ fuel ih =>
    intro listed m fr L a w hsz hc hH h
    refine ⟨fun hr => hstop listed hsz hr hH h, fun i hi => ?_⟩
    obtain ⟨h0, o, ho, hready⟩ := mem_ready.1 hi
    have his : i < ops.size := (Array.getElem?_eq_some_iff.1 ho).1
    have h0' : listed.getD i false = false := by
      rw [Array.getD_eq_getD_getElem?, Array.getElem?_eq_getElem (by omega)] at h0 ⊢
      exact h0
    have hset : (listed.setIfInBounds i true).getD i false = true := by
      rw [Array.getD_eq_getD_getElem?, Array.getElem?_setIfInBounds_self_of_lt (by omega)]; rfl
    have hne : ∀ j, j ≠ i → (listed.setIfInBounds i true).getD j false = listed.getD j false := fun j hj => getD_set_ne false (Ne.symm hj)
    have hcnt := cnt_set (l := fun j => listed.getD j false) (l' := fun j => (listed.setIfInBounds i true).getD j false) (i := i) hne h0' hset ops.size his
    unfold wpOp
    rw [ho]
    simp only
    by_cases hin : i < n
    · obtain ⟨o', d, ho', hd, hdo, hf, hfree, hF, hL⟩ := rows_at hn hrow hin
      rw [ho] at ho'; cases ho'
      have hstep := hH.step hn hrow (S' := fun j => (listed.setIfInBounds i true).getD j false) hp hin ho h0' hready hd hset hne
      have hfit := hf.congr (fr' := fr) (hH.looks hn hrow hp hin ho h0' hready)
      have hgen := hH.gens hn hrow hp hin ho h0' hready hd
      rcases hfit with ⟨hg, hq⟩ | ⟨hg, hy, hos⟩
      · rw [guardA_wanted h hg, if_pos rfl]
        obtain ⟨y, os, ⟨rfl, rfl⟩, hY⟩ := qOp_sound hG h (hH.ext hn hrow hin) (o := o) (fun c hc => by rw [hd]; exact congrArg Prod.fst (hgen c hc)) hq
        refine .inl (hY _ _ fun v w' ⟨m', h1, h2⟩ => ?_)
        rw [hd] at h1 h2 ⊢
        exact ih _ (by simp [hsz]) (by omega) hstep (h1.put (some d) h2)
      · rw [guardA_wanted h hg, if_neg (by simp)]
        rw [hy, hos] at hstep
        rw [hd]
        exact ih _ (by simp [hsz]) (by omega) hstep (h.put (some d) (by simp [VR]))
    · obtain ⟨h1, h2⟩ := hlast (by omega)
      have hi' : i = n := by omega
      subst hi'
      obtain ⟨g1, g2, g3⟩ := h2 o ho
      have hall : ∀ j, j < i → listed.getD j false = true := fun j hj => by
        obtain ⟨e, he, hb, rfl⟩ := g2 j hj
        exact hready e he hb
      obtain ⟨rfl, rfl⟩ := hfull listed hH hall
      rw [if_pos (by simp [Region.wanted, g1])]
      refine .inl (g3 _ _ _ h _ fun a w hq => hall0 _ _ _ _ (by simp [hsz]) (fun j hj => ?_) hq)
      by_cases hji : j = i
      · rw [hji]; exact hset
      · rw [hne j hji]; exact hall j (by omega)
theorem start_none (n : Nat) (j : Nat) : (Array.replicate n false).getD j false = false := by
  rw [Array.getD_eq_getD_getElem?, Array.getElem?_replicate]; split <;> rfl
theorem Half.start (fr : Fr) (L : Loc) (hF : F 0 = fr) (hLs : Ls 0 = L) : Half X ops Y O F Ls n (fun j => (Array.replicate ops.size false).getD j false) fr L := by
  subst hF hLs
  refine ⟨fun j hj => ?_, fun j o _ hj => ?_, fun t => ⟨fun _ => rfl, fun j hj => ?_⟩, fun _ _ => rfl, fun j p hj => ?_⟩
  all_goals (have h1 := start_none ops.size j; have h2 : (Array.replicate ops.size false).getD j false = true := hj; rw [h1] at h2; cases h2)
theorem region_sound {m : Mp} {fr : Fr} {L : Loc} {a : Act} {w : World} {id : Nat} (hG : ∀ f ∈ X.cs, Good X.P X.env f) (hm : X.P.follows .mixedOrders = true) (hok : pairOk ops = true) (h : Rel B Tg X.N w0 m fr L a w)
    (hlex : lexD X ops ops.toList fr L K) (hQ : ∀ m fr L a w, Rel B Tg X.N w0 m fr L a w → K fr L → Q .normal a w) : (Code.region id ops true).wp X.P Q a w := by
  obtain ⟨Y, O, F, Ls, hF, hLs, hrow, hK⟩ := lexD_tab (ops := ops) ops.toList 0 fr L (fun j => by simp) hlex
  have hK' : K (F ops.size) (Ls ops.size) := by simpa using hK
  exact wp_region_any hm (wpAny_of hG hok (n := ops.size) (Nat.le_refl _) (fun i o _ ho => hrow i o (Nat.zero_le _) ho) (fun _ m a w h => hQ _ _ _ _ _ h hK') (fun h => absurd rfl h) _ _ (by simp) (cnt_le _ _) (Half.start fr L hF hLs) (h.world (Below.draw w _)))

/-- Does the last operation stand alone and wait for all others? -/
def lastOp (ops : Array Oper) : Option Oper :=
  match ops.toList[ops.size - 1]? with
  | some o => match o.op, o.guard with
    | .store .., none => match Nat.blt 0 ops.size && ((List.range (ops.size - 1)).all fun i => o.after.toList.any fun e => Region.binds .any e && Nat.beq e.on i) with
      | true => some o
      | false => none
    | _, _ => none
  | none => none
theorem lastOp_spec {o : Oper} (h : lastOp ops = some o) : 0 < ops.size ∧ ops[ops.size - 1]? = some o ∧ o.guard = none ∧ ∀ i, i < ops.size - 1 → ∃ e ∈ o.after, Region.binds .any e = true ∧ e.on = i := by
  unfold lastOp at h
  split at h
  · rename_i o' ho'
    split at h
    · rename_i hop hg
      split at h
      · rename_i hc
        cases h
        simp only [Bool.and_eq_true, Nat.blt_eq, List.all_eq_true] at hc
        refine ⟨hc.1, by rw [← Array.getElem?_toList]; exact ho', hg, fun i hi => ?_⟩
        have := hc.2 i (List.mem_range.2 hi)
        rw [List.any_eq_true] at this
        obtain ⟨e, he, hb⟩ := this
        simp only [Bool.and_eq_true, Nat.beq_eq] at hb
        exact ⟨e, by simpa using he, hb.1, hb.2⟩
      · cases h
    · cases h
  · cases h
theorem lexD_tab' {K : Fr → Loc → Prop} {k : Nat} (hk : k ≤ ops.size) {fr : Fr} {L : Loc} (h : lexD X ops (ops.toList.take k) fr L K) :
    ∃ Y O F Ls, F 0 = fr ∧ Ls 0 = L ∧ (∀ i o, i < k → ops[i]? = some o → Row X ops Y O F Ls i o) ∧ K (F k) (Ls k) := by
  have aux : ∀ (l : List Oper) (b : Nat) (fr : Fr) (L : Loc), (∀ j, j < l.length → l[j]? = ops[b + j]?) → lexD X ops l fr L K →
      ∃ Y O F Ls, F b = fr ∧ Ls b = L ∧ (∀ i o, b ≤ i → i < b + l.length → ops[i]? = some o → Row X ops Y O F Ls i o) ∧ K (F (b + l.length)) (Ls (b + l.length)) := by
    intro l
    induction l with
    | nil =>
      intro b fr L _ h
      exact ⟨fun _ => .undef, fun _ => [], fun _ => fr, fun _ => L, rfl, rfl, fun i o h1 h2 => by simp at h2; omega, h⟩
    | cons o l ih =>
      intro b fr L hl h
      obtain ⟨d, y, os, hd, hf, hfree, hnext⟩ := lexD_row h
      obtain ⟨Y, O, F, Ls, hF, hLs, hrow, hK⟩ := ih (b + 1) _ _ (fun j hj => by have := hl (j + 1) (by simp; omega); simpa [Nat.add_assoc, Nat.add_comm 1 j] using this) hnext
      refine ⟨fun i => if i = b then y else Y i, fun i => if i = b then os else O i, fun i => if i = b then fr else F i, fun i => if i = b then L else Ls i, by simp, by simp, fun i o' hi hi2 ho' => ?_, ?_⟩
      · by_cases hik : i = b
        · subst hik
          have h0 := hl 0 (by simp)
          simp only [Nat.add_zero, List.getElem?_cons_zero] at h0
          rw [ho'] at h0; cases h0
          refine ⟨d, hd, by simpa using hf, by simpa using hfree, ?_, ?_⟩
          · simp [hF]
          · simp [hLs]
        · obtain ⟨d', h1, h2, h3, h4, h5⟩ := hrow i o' (by omega) (by simp at hi2; omega) ho'
          refine ⟨d', h1, by simpa [hik] using h2, by simpa [hik] using h3, ?_, ?_⟩
          · simp only [hik, if_false]; rw [if_neg (by omega)]; exact h4
          · simp only [hik, if_false]; rw [if_neg (by omega)]; exact h5
      · rw [List.length_cons, show b + (l.length + 1) = b + 1 + l.length by omega]
        simp only
        rw [if_neg (by omega), if_neg (by omega)]
        exact hK
  have hlen : (ops.toList.take k).length = k := by simp; omega
  obtain ⟨Y, O, F, Ls, hF, hLs, hrow, hK⟩ := aux (ops.toList.take k) 0 fr L (fun j hj => by rw [hlen] at hj; rw [List.getElem?_take, if_pos hj, Nat.zero_add]; simp) h
  rw [hlen, Nat.zero_add] at hK
  exact ⟨Y, O, F, Ls, hF, hLs, fun i o hi ho => hrow i o (Nat.zero_le _) (by rw [hlen]; omega) ho, hK⟩
theorem region_last {m : Mp} {fr : Fr} {L : Loc} {a : Act} {w : World} {id : Nat} {o : Oper} (hG : ∀ f ∈ X.cs, Good X.P X.env f) (hm : X.P.follows .mixedOrders = true) (hok : pairOk ops = true) (h : Rel B Tg X.N w0 m fr L a w)
    (ho : lastOp ops = some o) (hlex : lexD X ops (ops.toList.take (ops.size - 1)) fr L K)
    (hQ : ∀ m fr L a w, Rel B Tg X.N w0 m fr L a w → K fr L → ∀ K' : Act → World → Prop, (∀ a w, Q .normal a w → K' a w) → o.wp X.P a w K' Q) : (Code.region id ops true).wp X.P Q a w := by
  obtain ⟨h1, ho', h2, h3⟩ := lastOp_spec ho
  obtain ⟨Y, O, F, Ls, hF, hLs, hrow, hK⟩ := lexD_tab' (k := ops.size - 1) (by omega) hlex
  refine wp_region_any hm (wpAny_of hG hok (n := ops.size - 1) (by omega) hrow (fun he => by omega) (fun _ => ⟨by omega, fun o2 ho2 => ?_⟩) _ _ (by simp) (cnt_le _ _) (Half.start fr L hF hLs) (h.world (Below.draw w _)))
  rw [ho'] at ho2; cases ho2
  exact ⟨h2, h3, fun m a w h K' hK' => hQ _ _ _ _ _ h hK K' hK'⟩
end
end
end Go.Ax
