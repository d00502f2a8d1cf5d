/- The executor: a region whose order is open: one walk, in the order of the text, serves every order. -/
import Derived.Test.YtagiajolklbbiaaBxD
namespace Go.Bx
open Go.Ax
open Go.RowKit (Below)

/-- Is operation 'i' surely behind us when operation 'j' comes? -/
def reachB (ops : Array Oper) : Nat → Nat → Nat → Bool
  | 0, _, _ => false
  | f + 1, j, i => match ops[j]? with
    | none => false
    | some o => o.after.any fun e => Region.binds .any e && (Nat.beq e.on i || reachB ops f e.on i)
def isExt (o : Oper) : Bool :=
  match o.op with
  | .extract (.tmp _) _ => true
  | _ => false
def noSel (o : Oper) : Bool :=
  match o.op with
  | .select _ _ => false
  | _ => true
/-- May operation 'i' come late: one that takes a part of a value apart, and touches nothing else? -/
def lateB (ops : Array Oper) (i : Nat) : Bool :=
  match ops[i]? with
  | none => false
  | some oi => (isExt oi && oi.guard.isNone) && (List.range ops.size).all fun j => Nat.beq j i || (match ops[j]? with
    | none => true
    | some oj => oi.after.any (fun e => Nat.beq e.on j && Region.binds .any e) || (oj.after.any (fun e => Nat.beq e.on i && Region.binds .any e) || oi.apart ops oj))
/-- Of the first 'p' operations each waits for each earlier one, or is apart from it; each later one waits for all that stand ahead of it, but for those that may come late. -/
def pairOk (p : Nat) (ops : Array Oper) : Bool :=
  (List.range ops.size).all fun j => match ops[j]? with
    | none => true
    | some oj => (noSel oj && oj.after.all (fun e => !Region.binds .any e || Nat.blt e.on j)) && (List.range j).all fun i => match ops[i]? with
      | none => true
      | some oi => match Nat.blt j p with
        | true => oj.after.any (fun e => Nat.beq e.on i && Region.binds .any e) || oi.apart ops oj
        | false => reachB ops ops.size j i || (Nat.blt i p && lateB ops i)
def klOk (kl : List (Nat × Nat)) : Bool := decide (kl.map (·.2)).Nodup && kl.all fun p => !(kl.any fun q => Nat.beq p.2 q.1)
/-- The walk in the order of the text. -/
def lexD (X : Cx) (ops : Array Oper) : List Oper → Fr → Loc → List (Nat × Nat) → (Fr → Loc → List (Nat × Nat) → Prop) → Prop
  | [], fr, L, kl, K => K fr L kl
  | o :: rest, fr, L, kl, K => match o.dst with
    | none => False
    | some d0 => match o.guard with
      | none => qOp X L d0 o fr fun y os ks => forceA y fun y => match freeB d0 L os with
        | true => putK X.N fr (some d0) y fun fr => adoptK d0 L os fun L => lexD X ops rest fr L (ks.map (fun k => (d0 * 4, k)) ++ kl) K
        | false => False
      | some (j, want) => match (ops[j]?).bind (·.dst) with
        | some d => match (if d < X.N then fr d else .undef) with
          | .bool b => match want with
            | true => br b (qOp X L d0 o (upd fr d (.bool true)) fun y os ks => forceA y fun y => match freeB d0 L os with
                | true => putK X.N (upd fr d (.bool true)) (some d0) y fun fr => adoptK d0 L os fun L => lexD X ops rest fr L (ks.map (fun k => (d0 * 4, k)) ++ kl) K
                | false => False) (putK X.N (upd fr d (.bool false)) (some d0) .skip fun fr => lexD X ops rest fr L kl K)
            | false => br b (putK X.N (upd fr d (.bool true)) (some d0) .skip fun fr => lexD X ops rest fr L kl K) (qOp X L d0 o (upd fr d (.bool false)) fun y os ks => forceA y fun y => match freeB d0 L os with
                | true => putK X.N (upd fr d (.bool false)) (some d0) y fun fr => adoptK d0 L os fun L => lexD X ops rest fr L (ks.map (fun k => (d0 * 4, k)) ++ kl) K
                | false => False)
          | .skip => putK X.N fr (some d0) .skip fun fr => lexD X ops rest fr L kl K
          | _ => False
        | none => False

section
variable {X : Cx} {ops : Array Oper} {p : Nat}

theorem pairOk_at (h : pairOk p ops = true) {i j : Nat} {oi oj : Oper} (hi : ops[i]? = some oi) (hj : ops[j]? = some oj) (hij : i < j) :
    (j < p → (∃ e ∈ oj.after, e.on = i ∧ Region.binds .any e = true) ∨ oi.apart ops oj = true) ∧ (p ≤ j → reachB ops ops.size j i = true ∨ (i < p ∧ lateB ops i = true)) := by
  have hjs : j < ops.size := (Array.getElem?_eq_some_iff.1 hj).1
  unfold pairOk at h
  rw [List.all_eq_true] at h
  have h1 := h j (List.mem_range.2 hjs)
  simp only [hj, Bool.and_eq_true] at h1
  have h2 := h1.2
  rw [List.all_eq_true] at h2
  have h3 := h2 i (List.mem_range.2 hij)
  simp only [hi] at h3
  split at h3
  · rename_i hlt
    rw [Nat.blt_eq] at hlt
    refine ⟨fun _ => ?_, fun h => by omega⟩
    simp only [Bool.or_eq_true] at h3
    rcases h3 with h3 | h3
    · rw [Array.any_eq_true] at h3
      obtain ⟨k, hk, he⟩ := h3
      simp only [Bool.and_eq_true, Nat.beq_eq] at he
      exact .inl ⟨_, Array.getElem_mem hk, he.1, he.2⟩
    · exact .inr h3
  · rename_i hlt
    refine ⟨fun h => ?_, fun _ => ?_⟩
    · rw [← Nat.blt_eq, hlt] at h; cases h
    · simpa only [Bool.or_eq_true, Bool.and_eq_true, Nat.blt_eq] using h3
theorem pairOk_sel (h : pairOk p ops = true) (j : Nat) (o : Oper) (cs : Array SelectCase) (b : Bool) (hj : ops[j]? = some o) : o.op ≠ .select cs b := by
  intro e
  have hjs : j < ops.size := (Array.getElem?_eq_some_iff.1 hj).1
  unfold pairOk at h
  rw [List.all_eq_true] at h
  have h1 := h j (List.mem_range.2 hjs)
  simp only [hj, Bool.and_eq_true] at h1
  have h2 := h1.1.1
  unfold noSel at h2
  rw [e] at h2
  cases h2
theorem lateB_spec {i : Nat} (h : lateB ops i = true) : ∃ oi, ops[i]? = some oi ∧ (∃ t k, oi.op = .extract (.tmp t) k) ∧ oi.guard = none ∧ ∀ j oj, ops[j]? = some oj → j ≠ i → (∃ e ∈ oi.after, e.on = j ∧ Region.binds .any e = true) ∨ (∃ e ∈ oj.after, e.on = i ∧ Region.binds .any e = true) ∨ oi.apart ops oj = true := by
  unfold lateB at h
  split at h
  · cases h
  · rename_i oi ho
    simp only [Bool.and_eq_true] at h
    obtain ⟨⟨h1, h2⟩, h3⟩ := h
    refine ⟨oi, ho, ?_, by simpa using h2, fun j oj hj hne => ?_⟩
    · unfold isExt at h1
      split at h1
      · rename_i t k e; exact ⟨t, k, e⟩
      · cases h1
    · have hjs : j < ops.size := (Array.getElem?_eq_some_iff.1 hj).1
      rw [List.all_eq_true] at h3
      have h4 := h3 j (List.mem_range.2 hjs)
      simp only [hj, Bool.or_eq_true, Nat.beq_eq] at h4
      have any : ∀ {o : Oper} {i : Nat}, (o.after.any fun e => Nat.beq e.on i && Region.binds .any e) = true → ∃ e ∈ o.after, e.on = i ∧ Region.binds .any e = true := fun {o i} h5 => by
        rw [Array.any_eq_true] at h5
        obtain ⟨k, hk, he⟩ := h5
        simp only [Bool.and_eq_true, Nat.beq_eq] at he
        exact ⟨_, Array.getElem_mem hk, he.1, he.2⟩
      rcases h4 with h4 | h4 | h4 | h4
      · exact absurd h4 hne
      · exact .inl (any h4)
      · exact .inr (.inl (any h4))
      · exact .inr (.inr h4)
theorem pairOk_edge (h : pairOk p ops = true) {j : Nat} {oj : Oper} (hj : ops[j]? = some oj) : ∀ e ∈ oj.after, Region.binds .any e = true → e.on < j := by
  intro e he hb
  have hjs : j < ops.size := (Array.getElem?_eq_some_iff.1 hj).1
  unfold pairOk at h
  rw [List.all_eq_true] at h
  have h1 := h j (List.mem_range.2 hjs)
  simp only [hj, Bool.and_eq_true] at h1
  have h2 := Array.all_eq_true_iff_forall_mem.1 h1.1.2 e he
  rw [hb] at h2
  simpa using h2
theorem reachB_sound {S : Nat → Prop} (hcl : ∀ j o, ops[j]? = some o → S j → ∀ e ∈ o.after, Region.binds .any e = true → S e.on) : ∀ (f j i : Nat) (o : Oper), ops[j]? = some o → (∀ e ∈ o.after, Region.binds .any e = true → S e.on) → reachB ops f j i = true → S i
  | 0, _, _, _, _, _, h => by simp [reachB] at h
  | f + 1, j, i, o, ho, hr, h => by
    simp only [reachB, ho] at h
    rw [Array.any_eq_true] at h
    obtain ⟨k, hk, he⟩ := h
    simp only [Bool.and_eq_true, Bool.or_eq_true, Nat.beq_eq] at he
    obtain ⟨hb, he⟩ := he
    have hS := hr _ (Array.getElem_mem hk) hb
    rcases he with he | he
    · rw [← he]; exact hS
    · cases ho' : ops[(o.after[k]).on]? with
      | none =>
        cases f with
        | zero => simp [reachB] at he
        | succ f => simp only [reachB, ho'] at he; cases he
      | some o' => exact reachB_sound hcl f _ i o' ho' (hcl _ o' ho' hS) he

def dstOf (ops : Array Oper) (i : Nat) : Option Tmp := (ops[i]?).bind (·.dst)
def clampA (N d : Nat) (y : AV) : AV := if d < N then y else .undef
theorem putA_some (N : Nat) (fr : Fr) (d : Nat) (y : AV) : putA N fr (some d) y = upd fr d (clampA N d y) := by
  unfold putA clampA; dsimp only; split <;> rfl

/-- What stands in each slot when the operations of 'S' have been carried out: what the last of them laid there. -/
def Wr (N : Nat) (ops : Array Oper) (Y : Nat → AV) (fr0 : Fr) (S : Nat → Prop) (fr : Fr) : Prop :=
  ∀ t, ((∀ j, S j → dstOf ops j ≠ some t) → fr t = fr0 t) ∧ (∀ j, S j → dstOf ops j = some t → (∀ j', S j' → dstOf ops j' = some t → j' ≤ j) → fr t = clampA N t (Y j))
theorem exists_max {p : Nat → Prop} : ∀ (n : Nat), (∃ j, p j) → (∀ j, p j → j < n) → ∃ j, p j ∧ ∀ j', p j' → j' ≤ j
  | 0, ⟨j, hj⟩, hb => absurd (hb j hj) (by omega)
  | n + 1, h, hb => by
    by_cases hn : p n
    · exact ⟨n, hn, fun j' hj' => by have := hb j' hj'; omega⟩
    · exact exists_max n h fun j hj => by
        have := hb j hj
        have : j ≠ n := fun e => hn (e ▸ hj)
        omega
theorem Wr.eq {N : Nat} {Y : Nat → AV} {fr0 fr fr' : Fr} {S S' : Nat → Prop} (h : Wr N ops Y fr0 S fr) (h' : Wr N ops Y fr0 S' fr') {t : Nat} (n : Nat) (hn : ∀ j, S j → j < n) (hs : ∀ j, dstOf ops j = some t → (S j ↔ S' j)) : fr t = fr' t := by
  by_cases hex : ∃ j, S j ∧ dstOf ops j = some t
  · obtain ⟨j, ⟨hj, hd⟩, hmax⟩ := exists_max (p := fun j => S j ∧ dstOf ops j = some t) n hex fun j hj => hn j hj.1
    rw [(h t).2 j hj hd fun j' h1 h2 => hmax j' ⟨h1, h2⟩, (h' t).2 j ((hs j hd).1 hj) hd fun j' h1 h2 => hmax j' ⟨(hs j' h2).2 h1, h2⟩]
  · rw [(h t).1 fun j hj hd => hex ⟨j, hj, hd⟩, (h' t).1 fun j hj hd => hex ⟨j, (hs j hd).2 hj, hd⟩]
theorem Wr.eqOn {N : Nat} {Y : Nat → AV} {fr0 fr fr' : Fr} {S S' : Nat → Prop} (h : Wr N ops Y fr0 S fr) (h' : Wr N ops Y fr0 S' fr') {t : Nat} (n : Nat) (hn : ∀ j, S j → j < n) (hn' : ∀ j, S' j → j < n) (hs : ∀ j, j < n → dstOf ops j = some t → (S j ↔ S' j)) : fr t = fr' t := by
  by_cases hex : ∃ j, S j ∧ dstOf ops j = some t
  · obtain ⟨j, ⟨hj, hd⟩, hmax⟩ := exists_max (p := fun j => S j ∧ dstOf ops j = some t) n hex fun j hj => hn j hj.1
    rw [(h t).2 j hj hd fun j' h1 h2 => hmax j' ⟨h1, h2⟩, (h' t).2 j ((hs j (hn j hj) hd).1 hj) hd fun j' h1 h2 => hmax j' ⟨(hs j' (hn' j' h1) h2).2 h1, h2⟩]
  · rw [(h t).1 fun j hj hd => hex ⟨j, hj, hd⟩, (h' t).1 fun j hj hd => hex ⟨j, (hs j (hn' j hj) hd).2 hj, hd⟩]
theorem Wr.step {N : Nat} {Y : Nat → AV} {fr0 fr : Fr} {S S' : Nat → Prop} (h : Wr N ops Y fr0 S fr) {i d : Nat} (hd : dstOf ops i = some d) (hS : ∀ j, S' j ↔ S j ∨ j = i) (hlast : ∀ j, S j → dstOf ops j = some d → j < i) :
    Wr N ops Y fr0 S' (putA N fr (some d) (Y i)) := by
  rw [putA_some]
  intro t
  by_cases ht : t = d
  · subst ht
    refine ⟨fun hno => absurd hd (hno i ((hS i).2 (.inr rfl))), fun j hj hdj hmax => ?_⟩
    have h1 : i ≤ j := hmax i ((hS i).2 (.inr rfl)) hd
    rw [upd_same]
    rcases (hS j).1 hj with hj | rfl
    · have := hlast j hj hdj; omega
    · rfl
  · rw [upd_ne _ _ ht]
    refine ⟨fun hno => (h t).1 fun j hj => hno j ((hS j).2 (.inl hj)), fun j hj hdj hmax => ?_⟩
    rcases (hS j).1 hj with hj | rfl
    · exact (h t).2 j hj hdj fun j' h1 h2 => hmax j' ((hS j').2 (.inl h1)) h2
    · rw [hd] at hdj; cases hdj; exact absurd rfl ht


def guardA (N : Nat) (ops : Array Oper) (fr : Fr) (o : Oper) : Option Bool :=
  match o.guard with
  | none => some true
  | some (j, want) => match (ops[j]?).bind (·.dst) with
    | some d => match (if d < N then fr d else .undef) with
      | .bool b => some (b == want)
      | .skip => some false
      | _ => none
    | none => none
def Fits (X : Cx) (ops : Array Oper) (L : Loc) (o : Oper) (fr : Fr) (y : AV) (os : List (Nat × Blk)) (ks : List Nat) : Prop :=
  (guardA X.N ops fr o = some true ∧ ∃ d, o.dst = some d ∧ qOp X L d o fr fun y' os' ks' => y' = y ∧ os' = os ∧ ks' = ks) ∨ (guardA X.N ops fr o = some false ∧ y = .skip ∧ os = [] ∧ ks = [])
theorem Fits.congr {L : Loc} {o : Oper} {fr fr' : Fr} {y : AV} {os : List (Nat × Blk)} {ks : List Nat} (h : Fits X ops L o fr y os ks) (he : ∀ t ∈ o.looksAt ops, fr t = fr' t) : Fits X ops L o fr' y os ks := by
  have hg : guardA X.N ops fr o = guardA X.N ops fr' o := by
    unfold guardA
    cases hg : o.guard with
    | none => rfl
    | some p =>
      obtain ⟨j, want⟩ := p
      simp only
      cases hd : (ops[j]?).bind (·.dst) with
      | none => rfl
      | some d =>
        have : fr d = fr' d := he d (by unfold Oper.looksAt; rw [hg]; simp only [hd]; simp)
        simp only [this]
  rcases h with ⟨h1, dd, hdd, h2⟩ | ⟨h1, h2, h3⟩
  · refine .inl ⟨by rw [← hg]; exact h1, dd, hdd, ?_⟩
    rwa [qOp_congr (fr' := fr')] at h2
    intro x hx
    cases x with
    | tmp t => exact he t (by unfold Oper.looksAt; exact List.mem_append_left _ (List.mem_filterMap.2 ⟨.tmp t, by simpa using hx, rfl⟩))
    | const v => rfl
    | global g => rfl
    | func f => rfl
  · exact .inr ⟨by rw [← hg]; exact h1, h2, h3⟩


/-- What the walk in the order of the text shows of operation 'i'. -/
def Row (X : Cx) (ops : Array Oper) (Y : Nat → AV) (O : Nat → List (Nat × Blk)) (A : Nat → List Nat) (F : Nat → Fr) (Ls : Nat → Loc) (G : Nat → List (Nat × Nat)) (i : Nat) (o : Oper) : Prop :=
  ∃ d, o.dst = some d ∧ Fits X ops (Ls i) o (F i) (Y i) (O i) (A i) ∧ freeB d (Ls i) (O i) = true ∧ F (i + 1) = putA X.N (F i) (some d) (Y i) ∧ Ls (i + 1) = adoptL d (Ls i) (O i) ∧ G (i + 1) = (A i).map (fun k => (d * 4, k)) ++ G i

theorem lexD_row {o : Oper} {rest : List Oper} {fr : Fr} {L : Loc} {kl : List (Nat × Nat)} {K : Fr → Loc → List (Nat × Nat) → Prop} (h : lexD X ops (o :: rest) fr L kl K) :
    ∃ d y os ks, o.dst = some d ∧ Fits X ops L o fr y os ks ∧ freeB d L os = true ∧ lexD X ops rest (putA X.N fr (some d) y) (adoptL d L os) (ks.map (fun k => (d * 4, k)) ++ kl) K := by
  have key : ∀ {d0 : Nat} {fr' : Fr}, fr' = fr → (qOp X L d0 o fr' fun y os ks => forceA y fun y => match freeB d0 L os with
        | true => putK X.N fr' (some d0) y fun fr => adoptK d0 L os fun L => lexD X ops rest fr L (ks.map (fun k => (d0 * 4, k)) ++ kl) K
        | false => False) → ∃ y os ks, (qOp X L d0 o fr fun y' os' ks' => y' = y ∧ os' = os ∧ ks' = ks) ∧ freeB d0 L os = true ∧ lexD X ops rest (putA X.N fr (some d0) y) (adoptL d0 L os) (ks.map (fun k => (d0 * 4, k)) ++ kl) K := by
    intro d0 fr' e hq
    subst e
    obtain ⟨y, os, ks, hK, hy⟩ := qOp_ex hq
    rw [forceA_eq] at hK
    split at hK
    · rename_i hf; rw [putK_eq, adoptK_eq] at hK; exact ⟨y, os, ks, hy (fun y' os' ks' => y' = y ∧ os' = os ∧ ks' = ks) (And.intro rfl (And.intro rfl rfl)), hf, hK⟩
    · exact hK.elim
  unfold lexD at h
  split at h
  · exact h.elim
  · rename_i d0 hd0
    split at h
    · rename_i hg
      obtain ⟨y, os, ks, h1, h2, h3⟩ := key rfl h
      exact ⟨d0, y, os, ks, hd0, .inl ⟨by simp [guardA, hg], d0, hd0, h1⟩, h2, h3⟩
    · rename_i j want hg
      split at h
      · rename_i d hd
        split at h
        · rename_i b hb
          have hfd : fr d = .bool b := by
            split at hb
            · exact hb
            · cases hb
          have hga : guardA X.N ops fr o = some (b == want) := by simp only [guardA, hg, hd, hb]
          have hu : ∀ c, b = c → upd fr d (.bool c) = fr := fun c e => by rw [← e, ← hfd, upd_self]
          cases want <;> simp only at h <;> replace h := br_elim h <;> cases b
          · obtain ⟨y, os, ks, h1, h2, h3⟩ := key (hu false rfl) (h.2 rfl)
            exact ⟨d0, y, os, ks, hd0, .inl ⟨hga, d0, hd0, h1⟩, h2, h3⟩
          · have := h.1 rfl
            rw [hu true rfl, putK_eq] at this
            exact ⟨d0, .skip, [], [], hd0, .inr ⟨hga, rfl, rfl, rfl⟩, rfl, this⟩
          · have := h.2 rfl
            rw [hu false rfl, putK_eq] at this
            exact ⟨d0, .skip, [], [], hd0, .inr ⟨hga, rfl, rfl, rfl⟩, rfl, this⟩
          · obtain ⟨y, os, ks, h1, h2, h3⟩ := key (hu true rfl) (h.1 rfl)
            exact ⟨d0, y, os, ks, hd0, .inl ⟨hga, d0, hd0, h1⟩, h2, h3⟩
        · rename_i hb
          rw [putK_eq] at h
          exact ⟨d0, .skip, [], [], hd0, .inr ⟨by simp only [guardA, hg, hd, hb], rfl, rfl, rfl⟩, rfl, h⟩
        · exact h.elim
      · exact h.elim
theorem lexD_tab {K : Fr → Loc → List (Nat × Nat) → Prop} {k : Nat} (hk : k ≤ ops.size) {fr : Fr} {L : Loc} (h : lexD X ops (ops.toList.take k) fr L [] K) :
    ∃ Y O A F Ls G, F 0 = fr ∧ Ls 0 = L ∧ G 0 = [] ∧ (∀ i o, i < k → ops[i]? = some o → Row X ops Y O A F Ls G i o) ∧ K (F k) (Ls k) (G k) := by
  have aux : ∀ (l : List Oper) (b : Nat) (fr : Fr) (L : Loc) (kl : List (Nat × Nat)), (∀ j, j < l.length → l[j]? = ops[b + j]?) → lexD X ops l fr L kl K →
      ∃ Y O A F Ls G, F b = fr ∧ Ls b = L ∧ G b = kl ∧ (∀ i o, b ≤ i → i < b + l.length → ops[i]? = some o → Row X ops Y O A F Ls G i o) ∧ K (F (b + l.length)) (Ls (b + l.length)) (G (b + l.length)) := by
    intro l
    induction l with
    | nil =>
      intro b fr L kl _ h
      exact ⟨fun _ => .undef, fun _ => [], fun _ => [], fun _ => fr, fun _ => L, fun _ => kl, rfl, rfl, rfl, fun i o h1 h2 => by simp at h2; omega, h⟩
    | cons o l ih =>
      intro b fr L kl hl h
      obtain ⟨d, y, os, ks, hd, hf, hfree, hnext⟩ := lexD_row h
      obtain ⟨Y, O, A, F, Ls, G, hF, hLs, hG, hrow, hK⟩ := ih (b + 1) _ _ _ (fun j hj => by have := hl (j + 1) (by simp; omega); simpa [Nat.add_assoc, Nat.add_comm 1 j] using this) hnext
      refine ⟨fun i => if i = b then y else Y i, fun i => if i = b then os else O i, fun i => if i = b then ks else A i, fun i => if i = b then fr else F i, fun i => if i = b then L else Ls i, fun i => if i = b then kl else G i, by simp, by simp, by simp, fun i o' hi hi2 ho' => ?_, ?_⟩
      · by_cases hik : i = b
        · subst hik
          have h0 := hl 0 (by simp)
          simp only [Nat.add_zero, List.getElem?_cons_zero] at h0
          rw [ho'] at h0; cases h0
          refine ⟨d, hd, by simpa using hf, by simpa using hfree, ?_, ?_, ?_⟩
          · simp [hF]
          · simp [hLs]
          · simp [hG]
        · obtain ⟨d', h1, h2, h3, h4, h5, h6⟩ := hrow i o' (by omega) (by simp at hi2; omega) ho'
          refine ⟨d', h1, by simpa [hik] using h2, by simpa [hik] using h3, ?_, ?_, ?_⟩
          · simp only [hik, if_false]; rw [if_neg (by omega)]; exact h4
          · simp only [hik, if_false]; rw [if_neg (by omega)]; exact h5
          · simp only [hik, if_false]; rw [if_neg (by omega)]; exact h6
      · rw [List.length_cons, show b + (l.length + 1) = b + 1 + l.length by omega]
        simp only
        rw [if_neg (by omega), if_neg (by omega), if_neg (by omega)]
        exact hK
  have hlen : (ops.toList.take k).length = k := by simp; omega
  obtain ⟨Y, O, A, F, Ls, G, hF, hLs, hG, hrow, hK⟩ := aux (ops.toList.take k) 0 fr L [] (fun j hj => by rw [hlen] at hj; rw [List.getElem?_take, if_pos hj, Nat.zero_add]; simp) h
  rw [hlen, Nat.zero_add] at hK
  exact ⟨Y, O, A, F, Ls, G, hF, hLs, hG, fun i o hi ho => hrow i o (Nat.zero_le _) (by rw [hlen]; omega) ho, hK⟩

/-! ### The blocks -/
theorem adoptL_nf (t k : Nat) : ∀ (os : List (Nat × Blk)) (L : Loc), L k ≠ .free → adoptL t L os k ≠ .free
  | [], _, h => h
  | (i, b) :: os, L, h => by
    rw [adoptL_cons]
    refine adoptL_nf t k os _ ?_
    by_cases hk : k = t * 4 + i
    · rw [hk, upd_same]; simp
    · rw [upd_ne _ _ hk]; exact h
theorem adoptL_isLive (t : Nat) : ∀ (os : List (Nat × Blk)) (L : Loc), ∀ p ∈ os, isLive (adoptL t L os (t * 4 + p.1)) = true
  | [], _, p, hp => by cases hp
  | (i, b) :: os, L, p, hp => by
    rw [adoptL_cons]
    have aux : ∀ (os : List (Nat × Blk)) (L : Loc) (k : Nat), isLive (L k) = true → isLive (adoptL t L os k) = true := by
      intro os
      induction os with
      | nil => exact fun _ _ h => h
      | cons q os ih =>
        intro L k h
        obtain ⟨j, c⟩ := q
        rw [adoptL_cons]
        refine ih _ _ ?_
        by_cases hk : k = t * 4 + j
        · rw [hk, upd_same]; rfl
        · rw [upd_ne _ _ hk]; exact h
    rcases List.mem_cons.1 hp with rfl | hp
    · exact aux os _ _ (by rw [upd_same]; rfl)
    · exact adoptL_isLive t os _ p hp
theorem adoptL_congr (t k : Nat) : ∀ (os : List (Nat × Blk)) (L L' : Loc), L k = L' k → adoptL t L os k = adoptL t L' os k
  | [], _, _, h => h
  | (i, b) :: os, L, L', h => by
    rw [adoptL_cons, adoptL_cons]
    refine adoptL_congr t k os _ _ ?_
    by_cases hk : k = t * 4 + i
    · rw [hk, upd_same, upd_same]
    · rw [upd_ne _ _ hk, upd_ne _ _ hk, h]

def keyOf (ops : Array Oper) (i c : Nat) : Nat := ((dstOf ops i).getD 0) * 4 + c
section
variable {Y : Nat → AV} {O : Nat → List (Nat × Blk)} {A : Nat → List Nat} {F : Nat → Fr} {Ls : Nat → Loc} {G : Nat → List (Nat × Nat)} {n : Nat} (hn : n ≤ ops.size) (hrow : ∀ i o, i < n → ops[i]? = some o → Row X ops Y O A F Ls G i o)
include hn hrow

theorem rows_at {i : Nat} (hi : i < n) : ∃ o d, ops[i]? = some o ∧ o.dst = some d ∧ dstOf ops i = some d ∧ Fits X ops (Ls i) o (F i) (Y i) (O i) (A i) ∧ freeB d (Ls i) (O i) = true ∧ F (i + 1) = putA X.N (F i) (some d) (Y i) ∧ Ls (i + 1) = adoptL d (Ls i) (O i) ∧ G (i + 1) = (A i).map (fun k => (d * 4, k)) ++ G i := by
  have ho : ops[i]? = some ops[i] := Array.getElem?_eq_getElem (by omega)
  obtain ⟨d, h1, h2, h3, h4, h5, h6⟩ := hrow i _ hi ho
  exact ⟨_, d, ho, h1, by simp [dstOf, ho, h1], h2, h3, h4, h5, h6⟩
theorem pairs_in {i : Nat} (hi : i < n) {k d : Nat} (hk : k ∈ A i) (hd : dstOf ops i = some d) : (d * 4, k) ∈ G n := by
  have step : ∀ j, j ≤ n → i < j → (d * 4, k) ∈ G j := by
    intro j
    induction j with
    | zero => intro _ h; omega
    | succ j ih =>
      intro h1 h2
      obtain ⟨o', d', _, _, hdo', _, _, _, _, hG⟩ := rows_at hn hrow (i := j) (by omega)
      rw [hG]
      by_cases e : j = i
      · subst e
        rw [hd] at hdo'; cases hdo'
        exact List.mem_append_left _ (List.mem_map.2 ⟨k, hk, rfl⟩)
      · exact List.mem_append_right _ (ih (by omega) (by omega))
  exact step n (Nat.le_refl _) hi
theorem live_later {i : Nat} (hi : i < n) {p : Nat × Blk} (hp : p ∈ O i) : ∀ j, i < j → j ≤ n → Ls j (keyOf ops i p.1) = Ls (i + 1) (keyOf ops i p.1) ∧ isLive (Ls j (keyOf ops i p.1)) = true := by
  obtain ⟨o, d, ho, hd, hdo, hf, hfree, hF, hL, _⟩ := rows_at hn hrow hi
  intro j
  induction j with
  | zero => intro h; omega
  | succ j ih =>
    intro h1 h2
    by_cases e : j = i
    · subst e
      refine ⟨rfl, ?_⟩
      rw [hL]; simp only [keyOf, hdo, Option.getD_some]; exact adoptL_isLive d _ _ p hp
    · obtain ⟨h3, h4⟩ := ih (by omega) (by omega)
      obtain ⟨o', d', ho', hd', hdo', hf', hfree', hF', hL', _⟩ := rows_at hn hrow (i := j) (by omega)
      have : Ls (j + 1) (keyOf ops i p.1) = Ls j (keyOf ops i p.1) := by
        rw [hL']
        refine adoptL_other d' _ _ _ fun q hq e' => ?_
        have := ((freeB_spec hfree').1 q hq).2.1
        rw [e'] at this
        rw [this] at h4; cases h4
      rw [this]; exact ⟨h3, h4⟩
theorem key_one {i j : Nat} (hi : i < n) (hj : j < n) {p q : Nat × Blk} (hp : p ∈ O i) (hq : q ∈ O j) (e : keyOf ops i p.1 = keyOf ops j q.1) : i = j := by
  have aux : ∀ {i j : Nat}, i < n → j < n → ∀ {p q : Nat × Blk}, p ∈ O i → q ∈ O j → keyOf ops i p.1 = keyOf ops j q.1 → ¬ i < j := by
    intro i j hi hj p q hp hq e hlt
    obtain ⟨h3, h4⟩ := live_later hn hrow hi hp j hlt (by omega)
    obtain ⟨o', d', ho', hd', hdo', hf', hfree', hF', hL', _⟩ := rows_at hn hrow hj
    have := ((freeB_spec hfree').1 q hq).2.1
    have e' : keyOf ops j q.1 = d' * 4 + q.1 := by simp [keyOf, hdo']
    rw [e, e', this] at h4; cases h4
  have h1 := aux hi hj hp hq e
  have h2 := aux hj hi hq hp e.symm
  omega
theorem untouched {k : Nat} : ∀ i, i ≤ n → (∀ j p, j < i → p ∈ O j → keyOf ops j p.1 ≠ k) → Ls i k = Ls 0 k
  | 0, _, _ => rfl
  | i + 1, hi, h => by
    obtain ⟨o, d, ho, hd, hdo, hf, hfree, hF, hL, _⟩ := rows_at hn hrow (i := i) (by omega)
    rw [hL, adoptL_other d k _ _ fun p hp e => h i p (by omega) hp (by simpa [keyOf, hdo] using e)]
    exact untouched i (by omega) fun j p hj hp => h j p (by omega) hp
theorem frames : ∀ i, i ≤ n → Wr X.N ops Y (F 0) (fun j => j < i) (F i)
  | 0, _ => fun t => ⟨fun _ => rfl, fun j hj => absurd hj (by omega)⟩
  | i + 1, hi => by
    obtain ⟨o, d, ho, hd, hdo, hf, hfree, hF, hL, _⟩ := rows_at hn hrow (i := i) (by omega)
    rw [hF]
    exact (frames i (by omega)).step hdo (fun j => by omega) fun j hj _ => hj
end

/-! ### Counting -/
def cnt (l : Nat → Bool) : Nat → Nat
  | 0 => 0
  | n + 1 => cnt l n + if l n then 0 else 1
theorem cnt_le (l : Nat → Bool) : ∀ n, cnt l n ≤ n
  | 0 => Nat.le_refl _
  | n + 1 => by have := cnt_le l n; simp only [cnt]; split <;> omega
theorem cnt_same {l l' : Nat → Bool} {i : Nat} (h : ∀ j, j ≠ i → l' j = l j) : ∀ n, n ≤ i → cnt l' n = cnt l n
  | 0, _ => rfl
  | n + 1, hn => by simp only [cnt]; rw [cnt_same h n (by omega), h n (by omega)]
theorem cnt_set {l l' : Nat → Bool} {i : Nat} (h : ∀ j, j ≠ i → l' j = l j) (h0 : l i = false) (h1 : l' i = true) : ∀ n, i < n → cnt l' n + 1 = cnt l n
  | 0, hn => absurd hn (by omega)
  | n + 1, hn => by
    simp only [cnt]
    by_cases e : n = i
    · subst e; rw [cnt_same h n (Nat.le_refl _), h0, h1]; simp
    · rw [h n e]; have := cnt_set h h0 h1 n (by omega); omega
theorem cnt_zero {l : Nat → Bool} : ∀ n, cnt l n = 0 → ∀ j, j < n → l j = true
  | 0, _, j, hj => absurd hj (by omega)
  | n + 1, h, j, hj => by
    simp only [cnt] at h
    by_cases e : j = n
    · subst e; cases hl : l j
      · rw [hl] at h; simp at h
      · rfl
    · exact cnt_zero n (by omega) j (by omega)


theorem cnt_prefix (n : Nat) : ∀ s, n ≤ s → cnt (fun j => decide (j < n)) s = s - n
  | 0, h => by simp [cnt]
  | s + 1, h => by
    simp only [cnt]
    by_cases e : n = s + 1
    · subst e
      have : ∀ q, q ≤ s + 1 → cnt (fun j => decide (j < s + 1)) q = 0 := by
        intro q
        induction q with
        | zero => intro _; rfl
        | succ q ih => intro hq; simp only [cnt]; rw [ih (by omega)]; simp; omega
      rw [this s (by omega)]; simp
    · rw [cnt_prefix n s (by omega)]
      have : ¬ s < n := by omega
      simp [this]; omega
theorem cnt_congr {l l' : Nat → Bool} : ∀ n, (∀ j, j < n → l j = l' j) → cnt l n = cnt l' n
  | 0, _ => rfl
  | n + 1, h => by simp only [cnt]; rw [cnt_congr n fun j hj => h j (by omega), h n (by omega)]

theorem guardA_wanted {F : Nat → Prop} {pn : Option (Nat × Nat)} {Tg : AV → Value → Prop} {w0 w : World} {sh : Sh} {m : Mp} {L : Loc} {fr : Fr} {a : Act} (h : Rel F Tg pn X.N w0 sh m fr L a w) {o : Oper} {b : Bool} (hg : guardA X.N ops fr o = some b) :
    Region.wanted o (yielded ops a.tmps) = b := by
  unfold guardA at hg
  split at hg
  · rename_i h0; cases hg; simp [Region.wanted, h0]
  · rename_i j want h0
    split at hg
    · rename_i d hd
      split at hg
      · rename_i c hc; cases hg; exact guard_yes h h0 hd hc
      · rename_i hc; cases hg; exact guard_skip h h0 hd hc
      · cases hg
    · cases hg

/-- The state half way: what has been listed, in whatever order. -/
structure Half (X : Cx) (ops : Array Oper) (Y : Nat → AV) (O : Nat → List (Nat × Blk)) (F : Nat → Fr) (Ls : Nat → Loc) (n : Nat) (S : Nat → Bool) (fr : Fr) (L : Loc) : Prop where
  small : ∀ j, S j = true → j < n
  closed : ∀ j o, ops[j]? = some o → S j = true → ∀ e ∈ o.after, Region.binds .any e = true → S e.on = true
  wr : Wr X.N ops Y (F 0) (fun j => S j = true) fr
  old : ∀ k, (∀ j p, S j = true → p ∈ O j → keyOf ops j p.1 ≠ k) → L k = Ls 0 k
  new : ∀ j p, S j = true → p ∈ O j → L (keyOf ops j p.1) = Ls n (keyOf ops j p.1)

section
variable {Y : Nat → AV} {O : Nat → List (Nat × Blk)} {A : Nat → List Nat} {F : Nat → Fr} {Ls : Nat → Loc} {G : Nat → List (Nat × Nat)} {n : Nat} {S S' : Nat → Bool} {fr : Fr} {L : Loc}
theorem Half.before (hp : pairOk n ops = true) (hH : Half X ops Y O F Ls n S fr L) {i : Nat} {o : Oper} (hin : i < n) (ho : ops[i]? = some o) (hi : S i = false) (hready : ∀ e ∈ o.after, Region.binds .any e = true → S e.on = true)
    {j : Nat} {oj : Oper} (hjn : j < n) (hoj : ops[j]? = some oj) (h1 : oj.apart ops o = true → False) (h2 : o.apart ops oj = true → False) : S j = true ↔ j < i := by
  constructor
  · intro hj
    rcases Nat.lt_trichotomy j i with h | h | h
    · exact h
    · subst h; rw [hi] at hj; cases hj
    · rcases (pairOk_at hp ho hoj h).1 hjn with ⟨e, he, he1, he2⟩ | h'
      · have := hH.closed j oj hoj hj e he he2
        rw [he1, hi] at this; cases this
      · exact (h2 h').elim
  · intro hj
    rcases (pairOk_at hp hoj ho hj).1 hin with ⟨e, he, he1, he2⟩ | h'
    · rw [← he1]; exact hready e he he2
    · exact (h1 h').elim
theorem four_eq {a b x y : Nat} (h : a * 4 + x = b * 4 + y) (hx : x < 4) (hy : y < 4) : a = b := by omega
theorem dstOf_get {j t : Nat} (h : dstOf ops j = some t) : ∃ oj, ops[j]? = some oj ∧ oj.dst = some t := by
  unfold dstOf at h
  cases ho : ops[j]? with
  | none => rw [ho] at h; cases h
  | some oj => rw [ho] at h; exact ⟨oj, rfl, h⟩

variable (hn : n ≤ ops.size) (hrow : ∀ i o, i < n → ops[i]? = some o → Row X ops Y O A F Ls G i o)
include hn hrow
theorem Half.key (hH : Half X ops Y O F Ls n S fr L) {i k : Nat} (hi : i < n) (hk : ∀ j p, j < n → p ∈ O j → keyOf ops j p.1 = k → (S j = true ↔ j < i)) : L k = Ls i k := by
  by_cases hex : ∃ j p, j < n ∧ p ∈ O j ∧ keyOf ops j p.1 = k
  · obtain ⟨j, p, hj, hpo, hkey⟩ := hex
    by_cases hji : j < i
    · have := hH.new j p ((hk j p hj hpo hkey).2 hji) hpo
      rw [← hkey, this, (live_later hn hrow hj hpo n hj (Nat.le_refl _)).1, (live_later hn hrow hj hpo i hji (by omega)).1]
    · have h1 : L k = Ls 0 k := hH.old k fun j' p' hj' hp' e => by
        have := key_one hn hrow (hH.small j' hj') hj hp' hpo (e.trans hkey.symm)
        subst this
        exact hji ((hk j' p hj hpo hkey).1 hj')
      have h2 : Ls i k = Ls 0 k := untouched hn hrow i (by omega) fun j' p' hj' hp' e => by
        have := key_one hn hrow (i := j') (by omega) hj hp' hpo (e.trans hkey.symm)
        omega
      rw [h1, h2]
  · rw [hH.old k fun j p hj hp e => hex ⟨j, p, hH.small j hj, hp, e⟩, untouched hn hrow i (by omega) fun j p hj hp e => hex ⟨j, p, by omega, hp, e⟩]
theorem Half.ext (hH : Half X ops Y O F Ls n S fr L) {i : Nat} (hi : i < n) : Ext (Ls i) L := by
  intro k c hc hg
  rw [← hc]
  refine hH.key hn hrow hi fun j p hj hpo hkey => ?_
  obtain ⟨o, d, ho, hd, hdo, hf, hfree, hF, hL, _⟩ := rows_at hn hrow hj
  have hkd : k = d * 4 + p.1 := by rw [← hkey]; simp [keyOf, hdo]
  have h0 : ∀ i', i' ≤ j → Ls i' k = Ls 0 k := fun i' hi' => untouched hn hrow i' (by omega) fun j' p' hj' hp' e => by
    have := key_one hn hrow (i := j') (by omega) hj hp' hpo (e.trans hkey.symm)
    omega
  have hfj : Ls j k = .free := by rw [hkd]; exact ((freeB_spec hfree).1 p hpo).2.1
  rcases Nat.lt_or_ge j i with h | h
  · refine ⟨fun _ => h, fun _ => ?_⟩
    cases hs : S j with
    | true => rfl
    | false =>
      exfalso
      have h1 : L k = Ls 0 k := hH.old k fun j' p' hj' hp' e => by
        have := key_one hn hrow (hH.small j' hj') hj hp' hpo (e.trans hkey.symm)
        subst this; rw [hs] at hj'; cases hj'
      rw [h1, ← h0 j (Nat.le_refl _), hfj] at hg
      exact hg rfl
  · exfalso
    rw [h0 i h, ← h0 j (Nat.le_refl _), hfj] at hc
    cases hc

theorem Half.looks (hp : pairOk n ops = true) (hH : Half X ops Y O F Ls n S fr L) {i : Nat} {o : Oper} (hin : i < n) (ho : ops[i]? = some o) (hi : S i = false) (hready : ∀ e ∈ o.after, Region.binds .any e = true → S e.on = true) :
    ∀ t ∈ o.looksAt ops, F i t = fr t := by
  intro t ht
  have hf := frames hn hrow i (by omega)
  by_cases hex : ∃ j, j < n ∧ dstOf ops j = some t
  · refine (Wr.eqOn hH.wr hf n hH.small (fun j hj => by omega) fun j hjn hj => ?_).symm
    obtain ⟨oj, hoj, hd⟩ := dstOf_get hj
    exact hH.before hp hin ho hi hready hjn hoj (fun h => (Oper.apart_spec h).1 t hd ht) (fun h => (Oper.apart_spec h).2.2 t hd ht)
  · rw [(hf t).1 fun j hj hd => hex ⟨j, by omega, hd⟩, (hH.wr t).1 fun j hj hd => hex ⟨j, hH.small j hj, hd⟩]
omit hn hrow in
theorem Half.own (hp : pairOk n ops = true) (hH : Half X ops Y O F Ls n S fr L) {i d : Nat} {o : Oper} (hin : i < n) (ho : ops[i]? = some o) (hi : S i = false) (hready : ∀ e ∈ o.after, Region.binds .any e = true → S e.on = true) (hd : o.dst = some d) :
    ∀ j, j < n → dstOf ops j = some d → (S j = true ↔ j < i) := by
  intro j hjn hj
  obtain ⟨oj, hoj, hdj⟩ := dstOf_get hj
  exact hH.before hp hin ho hi hready hjn hoj (fun h => (Oper.apart_spec h).2.1 d hdj hd) (fun h => (Oper.apart_spec h).2.1 d hd hdj)
theorem Half.step (hp : pairOk n ops = true) (hH : Half X ops Y O F Ls n S fr L) {i d : Nat} {o : Oper} (hin : i < n) (ho : ops[i]? = some o) (hi : S i = false) (hready : ∀ e ∈ o.after, Region.binds .any e = true → S e.on = true) (hd : o.dst = some d)
    (hS : S' i = true) (hS' : ∀ j, j ≠ i → S' j = S j) : Half X ops Y O F Ls n S' (putA X.N fr (some d) (Y i)) (adoptL d L (O i)) := by
  have hiff : ∀ j, S' j = true ↔ S j = true ∨ j = i := fun j => by
    by_cases e : j = i
    · subst e; simp [hS]
    · rw [hS' j e]; simp [e]
  obtain ⟨o', d', ho', hd', hdo, hf, hfree, hF, hL, _⟩ := rows_at hn hrow hin
  rw [ho] at ho'; cases ho'
  rw [hd] at hd'; cases hd'
  have hown := hH.own hp hin ho hi hready hd
  have hkeyd : ∀ p ∈ O i, keyOf ops i p.1 = d * 4 + p.1 := fun p _ => by simp [keyOf, hdo]
  refine ⟨fun j hj => ?_, fun j oj hoj hj e he hb => ?_, hH.wr.step hdo hiff fun j h1 h2 => (hown j (hH.small j h1) h2).1 h1, fun k hk => ?_, fun j p hj hpo => ?_⟩
  · rcases (hiff j).1 hj with h | rfl
    · exact hH.small j h
    · exact hin
  · rcases (hiff j).1 hj with h | rfl
    · exact (hiff _).2 (.inl (hH.closed j oj hoj h e he hb))
    · rw [ho] at hoj; cases hoj
      exact (hiff _).2 (.inl (hready e he hb))
  · rw [adoptL_other d k _ _ fun p hp' e => hk i p hS hp' (by rw [hkeyd p hp', e])]
    exact hH.old k fun j p hj hpo => hk j p ((hiff j).2 (.inl hj)) hpo
  · by_cases e : j = i
    · subst e
      rw [hkeyd p hpo, ← hkeyd p hpo, (live_later hn hrow hin hpo n hin (Nat.le_refl _)).1, hL]
      refine adoptL_congr d _ _ _ _ (hH.key hn hrow hin fun j' p' hj' hp' e' => ?_)
      refine hown j' hj' ?_
      obtain ⟨o2, d2, ho2, hd2, hdo2, hf2, hfree2, hF2, hL2, _⟩ := rows_at hn hrow hj'
      have h4 := ((freeB_spec hfree2).1 p' hp').1
      have h5 := ((freeB_spec hfree).1 p hpo).1
      rw [hkeyd p hpo] at e'
      simp only [keyOf, hdo2, Option.getD_some] at e'
      rw [hdo2, four_eq e' h4 (by assumption)]
    · have hj' : S j = true := by rcases (hiff j).1 hj with h | h; exact h; exact absurd h e
      rw [adoptL_other d _ _ _ fun q hq e' => ?_]
      · exact hH.new j p hj' hpo
      · rw [← hkeyd q hq] at e'
        exact e (key_one hn hrow (hH.small j hj') hin hpo hq e'.symm)
theorem Half.gens (hp : pairOk n ops = true) (hH : Half X ops Y O F Ls n S fr L) {i d : Nat} {o : Oper} (hin : i < n) (ho : ops[i]? = some o) (hi : S i = false) (hready : ∀ e ∈ o.after, Region.binds .any e = true → S e.on = true) (hd : o.dst = some d) (c : Nat) (hc : c < 4) :
    L (d * 4 + c) = Ls i (d * 4 + c) := by
  refine hH.key hn hrow hin fun j' p' hj' hp' e' => ?_
  refine hH.own hp hin ho hi hready hd j' hj' ?_
  obtain ⟨o2, d2, ho2, hd2, hdo2, hf2, hfree2, hF2, hL2, _⟩ := rows_at hn hrow hj'
  have h4 := ((freeB_spec hfree2).1 p' hp').1
  simp only [keyOf, hdo2, Option.getD_some] at e'
  rw [hdo2, four_eq e' h4 (by assumption)]
end
end
end Go.Bx
