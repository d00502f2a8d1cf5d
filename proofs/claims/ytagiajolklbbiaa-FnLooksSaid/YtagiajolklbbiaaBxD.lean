/- The executor: one operation after the other; a region whose order is open, walked in the order of the text. -/
import Derived.Test.YtagiajolklbbiaaBxS
namespace Go.Bx
open Go.Ax
open Go.RowKit (Below)

def putK (N : Nat) (fr : Fr) (dst : Option Tmp) (v : AV) (K : Fr → Prop) : Prop :=
  match dst with
  | none => K fr
  | some d => match Nat.blt d N with
    | true => K (upd fr d v)
    | false => K (upd fr d .undef)
theorem putK_eq (N : Nat) (fr : Fr) (dst : Option Tmp) (v : AV) (K : Fr → Prop) : putK N fr dst v K = K (putA N fr dst v) := by
  cases dst with
  | none => rfl
  | some d =>
    simp only [putK, putA]
    cases h : Nat.blt d N with
    | true => rw [if_pos (Nat.blt_eq ▸ h)]
    | false => rw [if_neg (fun h' => by have h2 : Nat.blt d N = true := by rw [Nat.blt_eq]; exact h'
                                        rw [h2] at h; cases h)]
def adoptK (t : Nat) (L : Loc) (os : List (Nat × Blk)) (K : Loc → Prop) : Prop :=
  match os with
  | [] => K L
  | (i, b) :: os => adoptK t (upd L (t * 4 + i) (.live b)) os K
theorem adoptK_eq (t : Nat) (K : Loc → Prop) : ∀ (os : List (Nat × Blk)) (L : Loc), adoptK t L os K = K (adoptL t L os)
  | [], _ => rfl
  | (i, b) :: os, L => by rw [adoptK, adoptK_eq t K os, adoptL_cons]
def killL : List Nat → Loc → Loc
  | [], L => L
  | k :: ks, L => killL ks (upd L k .dead)
def killK (ks : List Nat) (L : Loc) (K : Loc → Prop) : Prop :=
  match ks with
  | [] => K L
  | k :: ks => killK ks (upd L k .dead) K
theorem killK_eq (K : Loc → Prop) : ∀ (ks : List Nat) (L : Loc), killK ks L K = K (killL ks L)
  | [], _ => rfl
  | k :: ks, L => by rw [killK, killK_eq K ks]; rfl
theorem killL_get : ∀ (ks : List Nat) (L : Loc) (i : Nat), (i ∈ ks → killL ks L i = .dead) ∧ (i ∉ ks → killL ks L i = L i)
  | [], L, i => ⟨fun h => (by cases h), fun _ => rfl⟩
  | k :: ks, L, i => by
    have ih := killL_get ks (upd L k .dead) i
    refine ⟨fun h => ?_, fun h => ?_⟩
    · simp only [killL]
      by_cases hi : i ∈ ks
      · exact ih.1 hi
      · rcases List.mem_cons.1 h with rfl | h
        · rw [ih.2 hi, upd_same]
        · exact absurd h hi
    · simp only [List.mem_cons, not_or] at h
      simp only [killL]
      rw [ih.2 h.2, upd_ne _ _ h.1]

section
variable {F : Nat → Prop} {N : Nat} {pn : Option (Nat × Nat)} {Tg Tg' : AV → Value → Prop} {w0 w w' : World} {sh : Sh} {m m' mr : Mp} {L L' : Loc} {fr : Fr} {a : Act} {X : Cx}
theorem guard_yes (h : Rel F Tg pn X.N w0 sh m fr L a w) {o : Oper} {ops : Array Oper} {j d : Nat} {want b : Bool} (hg : o.guard = some (j, want)) (hd : (ops[j]?).bind (·.dst) = some d) (hb : (if d < X.N then fr d else .undef) = .bool b) :
    Region.wanted o (yielded ops a.tmps) = (b == want) := by
  have hdN : d < X.N := by
    rcases Nat.lt_or_ge d X.N with h' | h'
    · exact h'
    · rw [if_neg (by omega)] at hb; cases hb
  rw [if_pos hdN] at hb
  have ht := h.tmps d
  rw [hb] at ht
  simp only [VR] at ht
  have hs := h.size
  simp only [Array.getD_eq_getD_getElem?] at ht
  have hget : a.tmps[d]? = some (.bool b) := by
    cases hq : a.tmps[d]? with
    | none => rw [Array.getElem?_eq_none_iff] at hq; omega
    | some v => rw [hq] at ht; simpa using ht
  simp only [Region.wanted, hg, yielded, hd, Option.bind_some, hget]
  cases b <;> cases want <;> rfl
theorem guard_skip (h : Rel F Tg pn X.N w0 sh m fr L a w) {o : Oper} {ops : Array Oper} {j d : Nat} {want : Bool} (hg : o.guard = some (j, want)) (hd : (ops[j]?).bind (·.dst) = some d) (hb : (if d < X.N then fr d else .undef) = .skip) :
    Region.wanted o (yielded ops a.tmps) = false := by
  have hdN : d < X.N := by
    rcases Nat.lt_or_ge d X.N with h' | h'
    · exact h'
    · rw [if_neg (by omega)] at hb; cases hb
  rw [if_pos hdN] at hb
  have ht := h.tmps d
  rw [hb] at ht
  simp only [VR] at ht
  have hs := h.size
  simp only [Array.getD_eq_getD_getElem?] at ht
  have hget : a.tmps[d]? = some Go.undef := by
    cases hq : a.tmps[d]? with
    | none => rw [Array.getElem?_eq_none_iff] at hq; omega
    | some v => rw [hq] at ht; simpa using ht
  simp only [Region.wanted, hg, yielded, hd, Option.bind_some, hget, Go.undef]
  cases want <;> rfl

theorem Rel.known (h : Rel F Tg pn X.N w0 sh m fr L a w) {d : Nat} {b : Bool} (hd : fr d = .bool b) : Rel F Tg pn X.N w0 sh m (upd fr d (.bool b)) L a w := by
  rw [← hd, upd_self]; exact h
end


section
variable {F : Nat → Prop} {N : Nat} {pn : Option (Nat × Nat)} {Tg Tg' : AV → Value → Prop} {w0 w w' : World} {sh : Sh} {m m' mr : Mp} {L L' : Loc} {fr : Fr} {a : Act} {X : Cx}
/-- Slices that are used up: what lay under their keys is forgotten. -/
theorem Rel.kill (h : Rel F Tg pn N w0 sh m fr L a w) (ks : List Nat) (hs : ∀ i j, sh i j → j ∈ ks) : Rel F Tg pn N w0 noSh m fr (killL ks L) a w := by
  have hg := killL_get ks L
  have hlive : ∀ k b, killL ks L k = .live b → L k = .live b ∧ k ∉ ks := fun k b hk => by
    by_cases hi : k ∈ ks
    · rw [(hg k).1 hi] at hk; cases hk
    · exact ⟨by rw [← (hg k).2 hi]; exact hk, hi⟩
  have hk : Keeps F w w m m L (killL ks L) := by
    refine ⟨fun _ _ _ => rfl, fun k hk => ?_, fun k b _ hb => ⟨b, (hlive k b hb).1, rfl, b.like_refl⟩⟩
    by_cases hi : k ∈ ks
    · rw [(hg k).1 hi]; simp
    · rw [(hg k).2 hi]; exact hk
  refine ⟨h.kept, h.sub, fun k b hb hbh => ?_, fun k k' c c' h1 hb1 h2 hb2 e => ?_, fun p b e hb => h.pin p b e (hlive _ _ hb).1, h.size, h.defers, fun t => (h.tmps t).keep hk⟩
  · obtain ⟨h1, c, t, h2, h3, h4⟩ := h.heap k b (hlive k b hb).1 hbh
    exact ⟨h1, c, t, h2, h3, h4.keep hk⟩
  · obtain ⟨g1, g2⟩ := hlive k c h1
    obtain ⟨g3, g4⟩ := hlive k' c' h2
    rcases h.inj k k' c c' g1 hb1 g3 hb2 e with e' | e' | e'
    · exact .inl e'
    · exact absurd (hs _ _ e') g4
    · exact absurd (hs _ _ e') g2
end

/-! ### One operation: what it looks at; its value -/
theorem qOp_congr {X : Cx} {L : Loc} {d : Nat} {o : Oper} {fr fr' : Fr} {K : AV → List (Nat × Blk) → List Nat → Prop} (h : ∀ x ∈ o.op.operands, evA fr x = evA fr' x) : qOp X L d o fr K = qOp X L d o fr' K := by
  obtain ⟨dst, op, type, pos, after, guard⟩ := o
  have pairs : ∀ ps : Array (Nat × Operand), (∀ x ∈ (ps.toList.map (·.2)).toArray, evA fr x = evA fr' x) →
      (ps.toList.map fun p => (p.1, evA fr p.2)) = (ps.toList.map fun p => (p.1, evA fr' p.2)) ∧ ((ps.toList.map (·.2)).all fun x => livesA L (evA fr x)) = ((ps.toList.map (·.2)).all fun x => livesA L (evA fr' x)) := fun ps hp => by
    have hp' : ∀ p ∈ ps.toList, evA fr p.2 = evA fr' p.2 := fun p hm => hp p.2 (by simp only [List.mem_toArray]; exact List.mem_map_of_mem hm)
    refine ⟨List.map_congr_left fun p hm => by rw [hp' p hm], ?_⟩
    rw [List.all_map, List.all_map, Bool.eq_iff_iff, List.all_eq_true, List.all_eq_true]
    constructor
    · intro H p hm; have := H p hm; simp only [Function.comp] at this ⊢; rw [← hp' p hm]; exact this
    · intro H p hm; have := H p hm; simp only [Function.comp] at this ⊢; rw [hp' p hm]; exact this
  unfold qOp
  cases op <;> simp only [Op.operands] at h <;> simp only
  case move x => rw [h x (by simp)]
  case assign x => rw [h x (by simp)]
  case pick c x y => rw [h c (by simp), h x (by simp), h y (by simp)]
  case box T x => rw [h x (by simp)]
  case build T ps => rw [(pairs ps h).1, (pairs ps h).2]
  case buildSlice T n ps => rw [(pairs ps h).1, (pairs ps h).2]
  case load T x => rw [h x (by simp)]
  case nilCheck x => rw [h x (by simp)]
  case binOp op T x y yT => rw [h x (by simp), h y (by simp)]
  case unOp op T x => rw [h x (by simp)]
  case convert s d x => rw [h x (by simp)]
  case makeFunc fn first caps =>
    cases fn <;> simp only
    rw [List.map_congr_left fun x hx => h x (by simp at hx ⊢; exact .inr hx)]
  case makeSlice T l c => rw [h l (by simp), h c (by simp)]
  case slice T x l hi mx =>
    have e : ∀ y : Option Operand, (∀ z, y = some z → evA fr z = evA fr' z) → y.map (evA fr) = y.map (evA fr') := fun y hy => by
      cases y with
      | none => rfl
      | some z => simp [hy z rfl]
    rw [h x (by simp), e l fun z hz => h z (by simp [hz]), e hi fun z hz => h z (by simp [hz]), e mx fun z hz => h z (by simp [hz])]
  case fieldAddr S x f => rw [h x (by simp)]
  case field T x f => rw [h x (by simp)]
  case indexAddr T x i => rw [h x (by simp), h i (by simp)]
  case index T x i => rw [h x (by simp), h i (by simp)]
  case extract x i => rw [h x (by simp)]
  case call c =>
    have hargs : c.args.toList.map (evA fr) = c.args.toList.map (evA fr') := List.map_congr_left fun x hx => h x (by simp [Call.operands]; exact .inr (by simpa using hx))
    cases hc : c.callee with
    | value x => simp only [hargs, h x (by simp [Call.operands, hc])]
    | invoke r n => rfl
    | builtin b => simp only [hargs]
theorem onO_ex {x : Option AV} {K : AV → Prop} (h : onO x K) : ∃ y, K y ∧ ∀ K' : AV → Prop, K' y → onO x K' := by
  cases x with
  | none => exact h.elim
  | some y => exact ⟨y, h, fun _ h => h⟩
theorem i64K_ex {op : BinOp} {x y : Int} {K : AV → Prop} (h : i64K op x y K) : ∃ z, K z ∧ ∀ K' : AV → Prop, K' z → i64K op x y K' := by
  unfold i64K at h ⊢
  cases op <;> simp only at h ⊢
  case add => exact ⟨_, h.2, fun _ g => ⟨h.1, g⟩⟩
  case sub => exact ⟨_, h.2, fun _ g => ⟨h.1, g⟩⟩
  case mul => exact ⟨_, h.2, fun _ g => ⟨h.1, g⟩⟩
  case quo =>
    rcases h with h | h
    · exact ⟨_, h.2, fun _ g => .inl ⟨h.1, g⟩⟩
    · exact ⟨_, h.2, fun _ g => .inr ⟨h.1, g⟩⟩
  case rem =>
    rcases h with h | h
    · exact ⟨_, h.2, fun _ g => .inl ⟨h.1, g⟩⟩
    · exact ⟨_, h.2, fun _ g => .inr ⟨h.1, g⟩⟩
  case eql => exact ⟨_, h, fun _ g => g⟩
  case neq => exact ⟨_, h, fun _ g => g⟩
  case lss => exact ⟨_, h, fun _ g => g⟩
  case leq => exact ⟨_, h, fun _ g => g⟩
  case gtr => exact ⟨_, h, fun _ g => g⟩
  case geq => exact ⟨_, h, fun _ g => g⟩
theorem nilK_ex {L : Loc} {x : AV} {K : Bool → Prop} (h : nilK L x K) : ∃ b, K b ∧ ∀ K' : Bool → Prop, K' b → nilK L x K' := by
  unfold nilK at h ⊢
  split at h
  · exact ⟨_, h, fun _ g => g⟩
  · split at h
    · rename_i hL; exact ⟨_, h.2, fun _ g => by first | exact ⟨h.1, g⟩ | (simp only [hL]; exact ⟨h.1, g⟩)⟩
    · exact h.elim
  · exact ⟨_, h.2, fun _ g => ⟨h.1, g⟩⟩
  · exact h.elim
theorem binK_ex {P : Program} {L : Loc} {op : BinOp} {T : TypeId} {x y : AV} {K : AV → Prop} (h : binK P L op T x y K) : ∃ z, K z ∧ ∀ K' : AV → Prop, K' z → binK P L op T x y K' := by
  unfold binK at h ⊢
  split at h
  · split at h
    · exact onO_ex h
    · exact onO_ex h
    · split at h
      · obtain ⟨z, h1, h2⟩ := i64K_ex h
        exact ⟨z, h1, fun K' g => by
          have := h2 K' g
          first
            | exact this
            | (split <;> simp_all)⟩
      · split at h
        · obtain ⟨z, h1, h2⟩ := onO_ex h
          rename_i n1 n2 hne hk
          exact ⟨z, h1, fun K' g => by
            have := h2 K' g
            first
              | (rw [if_pos hk]; exact this)
              | (split <;> simp_all)⟩
        · exact h.elim
  · split at h
    · rename_i hk
      split at h
      · rename_i ha; exact ⟨_, h, fun _ g => by first | exact g | (rw [if_pos hk, if_pos ha]; exact g) | (simp only; rw [if_pos hk, if_pos ha]; exact g)⟩
      · rename_i ha
        split at h
        · rename_i hc; exact ⟨_, h, fun _ g => by first | exact g | (rw [if_pos hk, if_neg ha, if_pos hc]; exact g) | (simp only; rw [if_pos hk, if_neg ha, if_pos hc]; exact g)⟩
        · exact h.elim
    · exact h.elim
  · split at h
    · rename_i hk; exact ⟨_, h, fun _ g => by first | exact g | (rw [if_pos hk]; exact g) | (simp only; rw [if_pos hk]; exact g)⟩
    · rename_i hk
      obtain ⟨z, h1, h2⟩ := onO_ex h.2
      exact ⟨z, h1, fun _ g => by first | exact ⟨h.1, h2 _ g⟩ | (rw [if_neg hk]; exact ⟨h.1, h2 _ g⟩) | (simp only; rw [if_neg hk]; exact ⟨h.1, h2 _ g⟩)⟩
  · split at h
    · split at h
      · rename_i hT; exact ⟨_, h, fun _ g => by first | exact g | (simp only [hT]; exact g)⟩
      · rename_i hT; exact ⟨_, h, fun _ g => by first | exact g | (simp only [hT]; exact g)⟩
      · exact h.elim
    · exact h.elim
  · split at h
    · rename_i hk
      split at h
      · exact ⟨_, h, fun _ g => by first | exact g | (rw [if_pos hk]; exact g) | (simp only; rw [if_pos hk]; exact g)⟩
      · exact ⟨_, h, fun _ g => by first | exact g | (rw [if_pos hk]; exact g) | (simp only; rw [if_pos hk]; exact g)⟩
      · exact ⟨_, h, fun _ g => by first | exact g | (rw [if_pos hk]; exact g) | (simp only; rw [if_pos hk]; exact g)⟩
      · exact ⟨_, h, fun _ g => by first | exact g | (rw [if_pos hk]; exact g) | (simp only; rw [if_pos hk]; exact g)⟩
      · exact h.elim
    · exact h.elim
  · split at h
    · have hs : isSli P T = true := by assumption
      obtain ⟨b, h1, h2⟩ := nilK_ex h
      exact ⟨_, h1, fun _ g => by
        first
          | exact h2 _ g
          | (simp only [hs]; exact h2 _ g)⟩
    · have hs : isSli P T = true := by assumption
      obtain ⟨b, h1, h2⟩ := nilK_ex h
      exact ⟨_, h1, fun _ g => by
        first
          | exact h2 _ g
          | (simp only [hs]; exact h2 _ g)⟩
    · exact h.elim
  · exact h.elim
theorem unK_ex {op : UnOp} {x : AV} {K : AV → Prop} (h : unK op x K) : ∃ z, K z ∧ ∀ K' : AV → Prop, K' z → unK op x K' := by
  unfold unK at h ⊢
  split at h
  · exact ⟨_, h, fun _ g => g⟩
  · exact ⟨_, h.2, fun _ g => ⟨h.1, g⟩⟩
  · exact ⟨_, h, fun _ g => g⟩
  · exact ⟨_, h, fun _ g => g⟩
  · exact h.elim
theorem cvK_ex {P : Program} {s d : TypeId} {x : AV} {K : AV → Prop} (h : cvK P s d x K) : ∃ z, K z ∧ ∀ K' : AV → Prop, K' z → cvK P s d x K' := by
  unfold cvK at h ⊢
  split at h
  · rename_i h1 h2; exact ⟨_, h.2, fun _ g => by first | exact ⟨h.1, g⟩ | (simp only [h1, h2]; exact ⟨h.1, g⟩)⟩
  · rename_i us k q n hne h1 h2
    exact ⟨_, h, fun _ g => by first | exact g | (simp only [h1, h2]; split <;> simp_all) | (split <;> simp_all)⟩
  · rename_i h1 h2; exact ⟨_, h, fun _ g => by first | exact g | (simp only [h1, h2]; exact g)⟩
  · rename_i us k s x h1 h2
    split at h
    · exact ⟨_, h, fun _ g => by first | exact g | (simp only [h1, h2]; exact g)⟩
    · exact ⟨_, h.2, fun _ g => by first | exact ⟨h.1, g⟩ | (simp only [h1, h2]; exact ⟨h.1, g⟩)⟩
    · exact ⟨_, h, fun _ g => by first | exact g | (simp only [h1, h2]; split <;> simp_all) | (split <;> simp_all)⟩
  · rename_i h1 h2
    obtain ⟨n, h3, h4⟩ := h; exact ⟨_, h4, fun _ g => by first | exact ⟨n, h3, g⟩ | (simp only [h1, h2]; exact ⟨n, h3, g⟩)⟩
  · rename_i h1 h2; exact ⟨_, h.2, fun _ g => by first | exact ⟨h.1, g⟩ | (simp only [h1, h2]; exact ⟨h.1, g⟩)⟩
  · rename_i us k s x y h1 h2
    split at h
    · rename_i h3 h4; exact ⟨_, h, fun _ g => by first | exact g | (simp only [h1, h2, h3, h4]; exact g)⟩
    · exact h.elim
  · exact h.elim
theorem ixaK_ex {P : Program} {L : Loc} {T : TypeId} {x i : AV} {K : AV → Prop} (h : ixaK P L T x i K) : ∃ z, K z ∧ ∀ K' : AV → Prop, K' z → ixaK P L T x i K' := by
  unfold ixaK at h ⊢
  split at h
  case h_2 => exact h.elim
  split at h
  · rename_i hT
    split at h
    · rename_i hs
      split at h
      · split at h
        · rename_i hb; exact ⟨_, h.2, fun _ g => by first | exact ⟨h.1, g⟩ | (simp only [hT, hs, hb]; exact ⟨h.1, g⟩)⟩
        · exact h.elim
      · split at h
        · rename_i hL
          split at h
          · rename_i hb; exact ⟨_, h.2, fun _ g => by first | exact ⟨h.1, g⟩ | (simp only [hT, hs, hL, hb]; exact ⟨h.1, g⟩)⟩
          · exact h.elim
        · exact h.elim
      · exact h.elim
    · exact h.elim
  · rename_i hT
    split at h
    · rename_i hs
      split at h
      · split at h
        · rename_i hL; exact ⟨_, h.2, fun _ g => by first | exact ⟨h.1, g⟩ | (simp only [hT, hs, hL]; exact ⟨h.1, g⟩)⟩
        · exact h.elim
      · exact ⟨_, h.2, fun _ g => by first | exact ⟨h.1, g⟩ | (simp only [hT, hs]; exact ⟨h.1, g⟩)⟩
      · exact h.elim
    · exact h.elim
  · exact h.elim
theorem ixvK_ex {P : Program} {T : TypeId} {x i : AV} {K : AV → Prop} (h : ixvK P T x i K) : ∃ z, K z ∧ ∀ K' : AV → Prop, K' z → ixvK P T x i K' := by
  unfold ixvK at h ⊢
  split at h
  · rename_i hT
    obtain ⟨h1, h2⟩ := h
    split at h2
    · rename_i h3 h4; exact ⟨_, h2.2, fun _ g => by first | exact ⟨h1, h2.1, g⟩ | (simp only [hT, h3, h4]; exact ⟨h1, h2.1, g⟩)⟩
    · rename_i h3 h4
      obtain ⟨z, h5, h6⟩ := onO_ex h2
      exact ⟨z, h5, fun _ g => by first | exact ⟨h1, h6 _ g⟩ | (simp only [hT, h3, h4]; exact ⟨h1, h6 _ g⟩)⟩
    · exact h2.elim
  · exact h.elim
theorem slK_ex {P : Program} {T : TypeId} {x : AV} {l h' m : Option AV} {K : AV → Prop} (h : slK P T x l h' m K) : ∃ z, K z ∧ ∀ K' : AV → Prop, K' z → slK P T x l h' m K' := by
  unfold slK at h ⊢
  split at h
  · rename_i h1
    split at h
    · rename_i h2; exact ⟨_, h.2, fun _ g => by first | exact ⟨h.1, g⟩ | (simp only [h1, h2]; exact ⟨h.1, g⟩)⟩
    · exact h.elim
  · exact h.elim
theorem appK_ex {P : Program} {L : Loc} {t : Nat} {T : TypeId} {x y : AV} {K : AV → List (Nat × Blk) → List Nat → Prop} (h : appK P L t T x y K) : ∃ z os ks, K z os ks ∧ ∀ K' : AV → List (Nat × Blk) → List Nat → Prop, K' z os ks → appK P L t T x y K' := by
  unfold appK at h ⊢
  split at h
  case h_2 => exact h.elim
  rename_i hT
  split at h
  case h_2 => exact h.elim
  rename_i g1 g2 g3
  split at h
  case h_2 => exact h.elim
  rename_i r' ys' h1 h2
  split at h
  case h_2 => exact h.elim
  rename_i ys h3
  split at h
  · exact ⟨_, _, _, h.2, fun _ g => by first | exact ⟨h.1, g⟩ | (simp only [hT, g1, g2, g3, h1, h2, h3]; exact ⟨h.1, g⟩)⟩
  · split at h
    · rename_i h4
      split at h
      · rename_i h5
        exact ⟨_, _, _, h.2, fun _ g => by first | exact ⟨h.1, g⟩ | (simp only [hT, g1, g2, g3, h1, h2, h3, h4, h5]; exact ⟨h.1, g⟩)⟩
      · exact h.elim
    · exact h.elim
  · exact h.elim
theorem builtinK_ex {X : Cx} {L : Loc} {t : Nat} {b : Builtin} {ats : Array TypeId} {args : List AV} {K : AV → List (Nat × Blk) → List Nat → Prop} (h : builtinK X L t b ats args K) : ∃ z os ks, K z os ks ∧ ∀ K' : AV → List (Nat × Blk) → List Nat → Prop, K' z os ks → builtinK X L t b ats args K' := by
  unfold builtinK at h ⊢
  split at h
  · split at h
    · rename_i h0
      split at h
      · rename_i h1 h2; exact ⟨_, _, _, h, fun _ g => by first | exact g | (simp only [h0, h1, h2]; exact g)⟩
      · exact h.elim
    · exact h.elim
  · exact ⟨_, _, _, h, fun _ g => g⟩
  · exact ⟨_, _, _, h, fun _ g => g⟩
  · exact ⟨_, _, _, h.2, fun _ g => ⟨h.1, g⟩⟩
  · exact ⟨_, _, _, h.2, fun _ g => ⟨h.1, g⟩⟩
  · exact ⟨_, _, _, h.2, fun _ g => ⟨h.1, g⟩⟩
  · exact ⟨_, _, _, h, fun _ g => g⟩
  · exact ⟨_, _, _, h, fun _ g => g⟩
  · split at h
    · rename_i h0 h0'
      split at h
      · rename_i h1
        obtain ⟨z, os, ks, h2, h3⟩ := appK_ex h
        exact ⟨z, os, ks, h2, fun _ g => by first | exact h3 _ g | (simp only [h0, h0', h1]; exact h3 _ g)⟩
      · exact h.elim
    · exact h.elim
  · exact h.elim
/-- An operation's value does not hang on what is asked of it. -/
theorem qOp_ex {X : Cx} {L : Loc} {d : Nat} {o : Oper} {fr : Fr} {K : AV → List (Nat × Blk) → List Nat → Prop} (h : qOp X L d o fr K) : ∃ y os ks, K y os ks ∧ ∀ K' : AV → List (Nat × Blk) → List Nat → Prop, K' y os ks → qOp X L d o fr K' := by
  obtain ⟨dst, op, type, pos, after, guard⟩ := o
  have one : ∀ {C : (AV → Prop) → Prop}, (∀ K : AV → Prop, C K → ∃ y, K y ∧ ∀ K' : AV → Prop, K' y → C K') → C (fun y => K y [] []) → ∃ y os ks, K y os ks ∧ ∀ K' : AV → List (Nat × Blk) → List Nat → Prop, K' y os ks → C fun y => K' y [] [] := by
    intro C h1 hC
    obtain ⟨y, hK, hy⟩ := h1 _ hC
    exact ⟨y, [], [], hK, fun K' g => hy _ g⟩
  unfold qOp at h ⊢
  cases op <;> simp only at h ⊢
  case move x => exact ⟨_, _, _, h, fun _ g => g⟩
  case assign x => exact ⟨_, _, _, h, fun _ g => g⟩
  case pick c x y =>
    split at h
    · rename_i p hp
      cases p with
      | true => exact ⟨_, _, _, h, fun _ g => by first | exact g | (simp only [hp]; exact g)⟩
      | false => exact ⟨_, _, _, h, fun _ g => by first | exact g | (simp only [hp]; exact g)⟩
    · exact h.elim
  case alloc T =>
    split at h
    case h_2 => exact h.elim
    rename_i h1
    split at h
    case h_2 => exact h.elim
    rename_i h2
    split at h
    · rename_i h3; exact ⟨_, _, _, h, fun _ g => by first | exact g | (simp only [h1, h2, h3]; exact g)⟩
    · rename_i h3; exact ⟨_, _, _, h, fun _ g => by first | exact g | (simp only [h1, h2]; split <;> simp_all) | (split <;> simp_all)⟩
  case box T x =>
    split at h
    · rename_i h1 h2; exact ⟨_, _, _, h, fun _ g => by first | exact g | (simp only [h1, h2]; exact g)⟩
    · exact h.elim
  case build T ps =>
    split at h
    · rename_i g1 g2
      split at h
      · rename_i g3
        split at h
        · rename_i h1 h2; exact ⟨_, _, _, h, fun _ g => by first | exact g | (simp only [g1, g2, g3, h1, h2]; exact g)⟩
        · exact h.elim
      · exact h.elim
    · rename_i g1 g2
      split at h
      · rename_i g3
        split at h
        · rename_i h1 h2; exact ⟨_, _, _, h, fun _ g => by first | exact g | (simp only [g1, g2, g3, h1, h2]; exact g)⟩
        · exact h.elim
      · exact h.elim
    · exact h.elim
  case buildSlice T n ps =>
    split at h
    case h_2 => exact h.elim
    rename_i g1
    split at h
    case h_2 => exact h.elim
    rename_i g2 g3
    split at h
    · rename_i h1; exact ⟨_, _, _, h, fun _ g => by first | exact g | (simp only [g1, g2, g3, h1]; exact g)⟩
    · rename_i h1
      split at h
      case h_2 => exact h.elim
      rename_i h2
      split at h
      case h_2 => exact h.elim
      rename_i cs h3 h4
      split at h
      · rename_i xs h5; exact ⟨_, _, _, h, fun _ g => by first | exact g | (simp only [g1, g2, g3, h1, h2, h3, h4, h5]; exact g)⟩
      · exact h.elim
  case load T x => exact one (fun K h => onO_ex h) h
  case nilCheck x =>
    split at h
    · rename_i h1; exact ⟨_, _, _, h, fun _ g => by first | exact g | (simp only [h1]; exact g)⟩
    · exact h.elim
  case binOp op T x y yT => exact one (fun K h => binK_ex h) h
  case unOp op T x => exact one (fun K h => unK_ex h) h
  case convert s d x => exact one (fun K h => cvK_ex h) h
  case makeFunc fn first caps =>
    cases fn <;> simp only at h ⊢
    split at h
    · rename_i h1; exact ⟨_, _, _, h, fun _ g => by first | exact g | (simp only [h1]; exact g)⟩
    · exact h.elim
  case makeSlice T l c =>
    split at h
    case h_2 => exact h.elim
    rename_i g1 g2 g3
    split at h
    case h_2 => exact h.elim
    rename_i g4 g5 g6
    split at h
    case h_2 => exact h.elim
    rename_i g7 g8
    exact ⟨_, _, _, h.2, fun _ g => by first | exact ⟨h.1, g⟩ | (simp only [g1, g2, g3, g4, g5, g6, g7, g8]; exact ⟨h.1, g⟩)⟩
  case slice T x l hi mx => exact one (fun K h => slK_ex h) h
  case fieldAddr S x f => exact one (fun K h => onO_ex h) h
  case field T x f => exact one (fun K h => onO_ex h) h
  case indexAddr T x i => exact one (fun K h => ixaK_ex h) h
  case index T x i => exact one (fun K h => ixvK_ex h) h
  case extract x i =>
    split at h
    · rename_i vs hv
      obtain ⟨y, os, ks, h1, h2⟩ := one (C := onO vs[i]?) (fun K h => onO_ex h) h
      exact ⟨y, os, ks, h1, fun _ g => by first | exact h2 _ g | (simp only [hv]; exact h2 _ g)⟩
    · exact h.elim
  case call c =>
    cases hc : c.callee with
    | value x =>
      simp only [hc] at h ⊢
      split at h
      · rename_i hx
        unfold callK at h ⊢
        rw [forceL_eq] at h
        obtain ⟨r, h1, h2⟩ := h
        exact ⟨_, _, _, h2, fun _ g => by rw [forceL_eq]; exact ⟨r, h1, g⟩⟩
      · exact h.elim
    | invoke r n => simp only [hc] at h
    | builtin b =>
      simp only [hc] at h ⊢
      exact builtinK_ex h

/-- Are the keys of the new blocks free? -/
def isFree : KS → Bool
  | .free => true
  | _ => false
def freeB (t : Nat) (L : Loc) : List (Nat × Blk) → Bool
  | [] => true
  | (i, _) :: os => Nat.blt i 4 && (isFree (L (t * 4 + i)) && Nat.blt t 200000) && !(os.any fun p => Nat.beq p.1 i) && freeB t L os
theorem isFree_iff {s : KS} (h : isFree s = true) : s = .free := by cases s <;> simp [isFree] at h ⊢
theorem freeB_spec {t : Nat} {L : Loc} : ∀ {os : List (Nat × Blk)}, freeB t L os = true → (∀ p ∈ os, p.1 < 4 ∧ L (t * 4 + p.1) = .free ∧ t * 4 + p.1 ≠ LK) ∧ (os.map (·.1)).Nodup
  | [], _ => ⟨fun p hp => (by cases hp), by simp⟩
  | (i, b) :: os, h => by
    simp only [freeB, Bool.and_eq_true, Nat.blt_eq, Bool.not_eq_true'] at h
    obtain ⟨h1, h2⟩ := freeB_spec h.2
    refine ⟨fun p hp => ?_, ?_⟩
    · rcases List.mem_cons.1 hp with rfl | hp
      · exact ⟨h.1.1.1, isFree_iff h.1.1.2.1, by unfold LK; have := h.1.1.2.2; have := h.1.1.1; omega⟩
      · exact h1 p hp
    · simp only [List.map_cons, List.nodup_cons]
      refine ⟨fun hm => ?_, h2⟩
      obtain ⟨q, hq, e⟩ := List.mem_map.1 hm
      have := h.1.2
      rw [List.any_eq_false] at this
      exact this q hq (by simpa using e)

/-! ### Operations that write -/
/-- The slice that is lent. -/
def lentOf1 : AV → Option Nat
  | .osl k => some k
  | _ => none
def lentOf : List AV → Option Nat
  | [] => none
  | x :: xs => match x with
    | .osl k => some k
    | .loc k _ => some k
    | .agg cells => match cells.findSome? lentOf1 with
      | some k => some k
      | none => lentOf xs
    | _ => lentOf xs
def lend1 (k : Nat) (L : Loc) (x : AV) : AV :=
  match x with
  | .osl j => match Nat.beq j k with
    | true => .osl LK
    | false => fz 4 L (.osl j)
  | x => fz 4 L x
def lendA (k : Nat) (L : Loc) (x : AV) : AV :=
  match x with
  | .agg cells => .agg (cells.map (lend1 k L))
  | x => lend1 k L x
/-- A struct is lent by its pointer. -/
def lendP (k : Nat) (L : Loc) (x : AV) : AV :=
  match x with
  | .loc j off => match Nat.beq j k with
    | true => .loc LK off
    | false => fz 4 L (.loc j off)
  | x => fz 4 L x
/-- What holds no block of one's own. -/
def outA : AV → Bool
  | .bool _ | .int _ _ | .flt _ _ | .cpx _ _ _ | .sli _ _ _ | .nil | .emp _ => true
  | _ => false
/-- WHAT A FUNCTION DOES THAT WRITES THROUGH A POINTER TO A STRUCT OF ITS CALLER'S. -/
def DoesP (P : Program) (f : FuncId) (args cells : List AV) (y : AV) (cells' : List AV) : Prop :=
  ∀ (Tg : AV → Value → Prop) (w : World) (m : Mp) (cargs : Array Value) (c : Array Value) (t : TypeId), w.heap[(m LK).1]? = some (.cells c t (0, 0)) → c.size = (m LK).2 →
    VRpre (fun b => b < w.heap.size ∧ b ≠ (m LK).1) Tg w m (upd L0 LK (.live (.av cells))) cells c.toList →
    VRs (fun b => b < w.heap.size ∧ b ≠ (m LK).1) Tg w m (upd L0 LK (.live (.av cells))) args cargs.toList →
    Invokes P f cargs w fun v w' => Kept (fun b => b < w.heap.size ∧ b ≠ (m LK).1) w w' ∧ SV y v ∧
      ∃ c' t', w'.heap[(m LK).1]? = some (.cells c' t' (0, 0)) ∧ c'.size = c.size ∧ ∀ (i : Nat) (x : AV), cells'[i]? = some x → ∃ u, c'.toList[i]? = some u ∧ RV w.heap.size Tg w' m x u
/-- WHAT A FUNCTION DOES THAT HANDS BACK A POINTER TO A NEW STRUCT. -/
def DoesN (P : Program) (f : FuncId) (args cells : List AV) : Prop :=
  ∀ (Tg : AV → Value → Prop) (w : World) (m : Mp) (cargs : Array Value), VRs (fun b => b < w.heap.size) Tg w m L0 args cargs.toList →
    Invokes P f cargs w fun v w' => Below w.heap.size w w' ∧ ∃ b c t, w.heap.size ≤ b ∧ v = .pointer (some ⟨b, 0, none⟩) ∧ w'.heap[b]? = some (.cells c t (0, 0)) ∧
      ∀ (i : Nat) (x : AV), cells[i]? = some x → ∃ u, c.toList[i]? = some u ∧ RV w.heap.size Tg w' m x u
def callPK (X : Cx) (L : Loc) (k : Nat) (cells : List AV) (f : FuncId) (args : List AV) (K : AV → Loc → Prop) : Prop :=
  forceL 16 (cells.map (fz 3 (upd L k .dead))) fun cs => forceL 16 (args.map (lendP k (upd L k .dead))) fun as =>
    ∃ y cells', (DoesP X.P f as cs y cells' ∧ cells'.all outA = true) ∧ forceL 16 (cells'.map (imp 4 0)) fun cs' => K y (upd L k (.live (.av cs')))
def ptrT (P : Program) (T : TypeId) : Bool :=
  match P.underlying T with
  | some (.pointer _) => true
  | _ => false
def callNK (X : Cx) (L : Loc) (d : Nat) (f : FuncId) (args : List AV) (K : AV → Loc → Prop) : Prop :=
  forceL 16 (args.map (fz 4 L)) fun as => ∃ cells, (DoesN X.P f as cells ∧ cells.all outA = true) ∧ match freeB d L [(0, .av [])] with
    | true => forceL 16 (cells.map (imp 4 0)) fun cs => K (.loc (d * 4 + 0) 0) (upd L (d * 4 + 0) (.live (.av cs)))
    | false => False
def callMK (X : Cx) (L : Loc) (f : FuncId) (args : List AV) (K : AV → Loc → Prop) : Prop :=
  match lentOf args with
  | some k => match L k with
    | .live (.av cells) => callPK X L k cells f args K
    | .live (.tab r xs) => forceL 16 (args.map (lendA k (upd L k .dead))) fun as => ∃ y ys, (DoesM X.P f as r xs y ys ∧ ys.length = xs.length) ∧ K y (upd L k (.live (.tab r ys)))
    | _ => False
  | none => False
/-- WHAT A FUNCTION DOES THAT WRITES THROUGH A POINTER TO A STRUCT OF ITS CALLER'S, AND HANDS BACK MORE THAN A NUMBER. -/
def DoesQ (P : Program) (f : FuncId) (args cells : List AV) (r : AV) (cells' : List AV) : Prop :=
  ∀ (Tg : AV → Value → Prop) (w : World) (m : Mp) (cargs : Array Value) (c : Array Value) (t : TypeId), w.heap[(m LK).1]? = some (.cells c t (0, 0)) → c.size = (m LK).2 →
    VRpre (fun b => b < w.heap.size ∧ b ≠ (m LK).1) Tg w m (upd L0 LK (.live (.av cells))) cells c.toList →
    VRs (fun b => b < w.heap.size ∧ b ≠ (m LK).1) Tg w m (upd L0 LK (.live (.av cells))) args cargs.toList →
    Invokes P f cargs w fun v w' => Kept (fun b => b < w.heap.size ∧ b ≠ (m LK).1) w w' ∧
      (∃ c' t', w'.heap[(m LK).1]? = some (.cells c' t' (0, 0)) ∧ c'.size = c.size ∧ ∀ (i : Nat) (x : AV), cells'[i]? = some x → ∃ u, c'.toList[i]? = some u ∧ RV w.heap.size Tg w' m x u) ∧
      ∃ mr, RV w.heap.size Tg w' mr r v ∧ ∀ p q, p ∈ owns 4 r → p.2.has → q ∈ owns 4 r → q.2.has → (mr p.1).1 = (mr q.1).1 → p.1 = q.1
/-- A closure that writes into what it holds is lent it. -/
def lendQ (k : Nat) (L : Loc) (x : AV) : AV :=
  match x with
  | .fn f caps => .fn f (caps.map (lendP k L))
  | x => fz 4 L x
def callQK (X : Cx) (L : Loc) (d k : Nat) (cells : List AV) (f : FuncId) (args : List AV) (K : AV → Loc → Prop) : Prop :=
  forceL 16 (cells.map (fz 3 (upd L k .dead))) fun cs => forceL 16 (args.map (lendQ k (upd L k .dead))) fun as =>
    ∃ r cells', (DoesQ X.P f as cs r cells' ∧ cells'.all outA = true) ∧ forceL 16 (cells'.map (imp 4 0)) fun cs' =>
      match freeB d (upd L k (.live (.av cs'))) (owns 4 r) with
      | true => forceA (imp 4 d r) fun y => adoptK d (upd L k (.live (.av cs'))) (owns 4 r) fun L => K y L
      | false => False
/-- The struct that a writing closure among the arguments holds. -/
def locOf1 : List AV → Option Nat
  | [] => none
  | x :: xs => match x with
    | .loc k _ => some k
    | _ => locOf1 xs
def lentFn (ms : List FuncId) : List AV → Option Nat
  | [] => none
  | x :: xs => match x with
    | .fn f caps => match ms.contains f with
      | true => locOf1 caps
      | false => lentFn ms xs
    | _ => lentFn ms xs
/-- What is called, and what it holds. -/
def dynF (o : Oper) (fr : Fr) : Option (FuncId × List AV) :=
  match o.op with
  | .call c => match c.callee with
    | .value x => match evA fr x with
      | .fn f caps => some (f, caps)
      | _ => none
    | _ => none
  | _ => none
/-- A call of a function that writes into what it is handed. -/
def mutF (X : Cx) (o : Oper) : Option FuncId :=
  match o.op with
  | .call c => match c.callee with
    | .value (.func f) => match X.ms.contains f with
      | true => some f
      | false => none
    | _ => none
  | _ => none
def argsOf (o : Oper) (fr : Fr) : List AV :=
  match o.op with
  | .call c => c.args.toList.map (evA fr)
  | _ => []
def ksOk (t : Nat) (ks : List Nat) : Bool := !(ks.any fun k => Nat.beq k (t * 4))
/-- An operation that writes nothing but new blocks. -/
def quietK (X : Cx) (o : Oper) (fr : Fr) (L : Loc) (K : Fr → Loc → Prop) : Prop :=
  match o.dst with
  | some d => qOp X L d o fr fun y os ks => forceA y fun y => match freeB d L os && ksOk d ks with
    | true => putK X.N fr (some d) y fun fr => adoptK d L os fun L => killK ks L fun L => K fr L
    | false => False
  | none => qOp X L 0 o fr fun y os ks => forceA y fun _ => match freeB 0 L os && ksOk 0 ks with
    | true => adoptK 0 L os fun L => killK ks L fun L => K fr L
    | false => False
/-- An operation that may write. -/
def awpOp (X : Cx) (o : Oper) (fr : Fr) (L : Loc) (K : Fr → Loc → Prop) : Prop :=
  match o.op with
  | .store T x y => match stA X.P L T (evA fr x) (evA fr y) with
    | some L' => putK X.N fr o.dst .skip fun fr => K fr L'
    | none => False
  | _ => match mutF X o with
    | some f => match lentOf (argsOf o fr) with
      | some _ => callMK X L f (argsOf o fr) fun y L => putK X.N fr o.dst y fun fr => K fr L
      | none => match ptrT X.P o.type with
        | true => callNK X L (o.dst.getD 0) f (argsOf o fr) fun y L => putK X.N fr o.dst y fun fr => K fr L
        | false => quietK X o fr L K
    | none => match dynF o fr with
      | some (f, caps) => match X.ws.contains f with
        | true => callMK X L f (argsOf o fr ++ caps) fun y L => putK X.N fr o.dst y fun fr => K fr L
        | false => match lentFn X.ws (argsOf o fr) with
          | some k => match L k with
            | .live (.av cells) => callQK X L (o.dst.getD 0) k cells f (argsOf o fr ++ caps) fun y L => putK X.N fr o.dst y fun fr => K fr L
            | _ => False
          | none => quietK X o fr L K
      | none => quietK X o fr L K
/-- An operation, if it is wanted. -/
def stepA (X : Cx) (ops : Array Oper) (o : Oper) (fr : Fr) (L : Loc) (K : Fr → Loc → Prop) : Prop :=
  match o.guard with
  | none => awpOp X o fr L K
  | some (j, want) => match (ops[j]?).bind (·.dst) with
    | some d => match (if d < X.N then fr d else .undef) with
      | .bool b => match want with
        | true => br b (awpOp X o (upd fr d (.bool true)) L K) (putK X.N (upd fr d (.bool false)) o.dst .skip fun fr => K fr L)
        | false => br b (putK X.N (upd fr d (.bool true)) o.dst .skip fun fr => K fr L) (awpOp X o (upd fr d (.bool false)) L K)
      | .skip => putK X.N fr o.dst .skip fun fr => K fr L
      | _ => False
    | none => False
/-- The operations of a region, in the order of the text. -/
def awpOps (X : Cx) (ops : Array Oper) : List Oper → Fr → Loc → (Fr → Loc → Prop) → Prop
  | [], fr, L, K => K fr L
  | o :: rest, fr, L, K => stepA X ops o fr L fun fr L => awpOps X ops rest fr L K

section
variable {F : Nat → Prop} {N : Nat} {pn : Option (Nat × Nat)} {Tg Tg' : AV → Value → Prop} {w0 w w' : World} {sh : Sh} {m m' mr : Mp} {L L' : Loc} {fr : Fr} {a : Act} {X : Cx}
theorem lend_sound (h : Rel F Tg pn N w0 noSh m fr L a w) {k : Nat} {r : RK} {xs : List r.T} (hk : L k = .live (.tab r xs)) {x : AV} {v : Value} (hx : VR F Tg w m L x v) {m' : Mp} (hm' : m' LK = m k) :
    VR (fun b => b < w.heap.size ∧ (xs ≠ [] → b ≠ (m' LK).1)) (tgOf F Tg w m L) w m' (upd L0 LK (.live (.tab r xs))) (lendA k (upd L k .dead) x) v := by
  have hnF : xs ≠ [] → ¬ F (m k).1 := fun hne => (h.heap k _ hk hne).1
  have fzs : ∀ x v, VR F Tg w m L x v → VR (fun b => b < w.heap.size ∧ (xs ≠ [] → b ≠ (m' LK).1)) (tgOf F Tg w m L) w m' (upd L0 LK (.live (.tab r xs))) (fz 4 (upd L k .dead) x) v := fun x v hv =>
    fz_sound h.heap (K := fun i => i ≠ k) (fun b hb => ⟨h.sub b hb, fun hne e => hnF hne (by rw [hm'] at e; exact e ▸ hb)⟩) (fun i b hi hb hbh => ⟨h.heap.lt hb hbh, fun hne e => by
        rw [hm'] at e
        rcases h.inj i k _ _ hb hbh hk hne e with e' | e' | e'
        · exact hi e'
        · exact e'
        · exact e'⟩)
      (fun i b hb _ => by
        by_cases e : i = k
        · subst e; rw [upd_same] at hb; cases hb
        · rwa [upd_ne _ _ e] at hb)
      (fun i b hb e => by subst e; rw [upd_same] at hb; cases hb) 4 x v hv
  have one : ∀ x v, VR F Tg w m L x v → VR (fun b => b < w.heap.size ∧ (xs ≠ [] → b ≠ (m' LK).1)) (tgOf F Tg w m L) w m' (upd L0 LK (.live (.tab r xs))) (lend1 k (upd L k .dead) x) v := fun x v hv => by
    unfold lend1
    split
    · rename_i j
      split
      · rename_i hj
        have hj := Nat.eq_of_beq_eq_true hj
        subst hj
        simp only [VR, upd_same] at hv ⊢
        refine ⟨by simp, fun r' ys e => ?_⟩
        cases e
        rw [hm']
        exact hv.2 _ _ hk
      · exact fzs _ _ hv
    · exact fzs _ _ hv
  unfold lendA
  split
  · simp only [VR] at hx ⊢
    obtain ⟨cs, e, hc⟩ := hx
    exact ⟨cs, e, hc.map one⟩
  · exact one _ _ hx
theorem out_RV {B : Nat} {x : AV} {v : Value} (hx : outA x = true) (h : VR F Tg w m L x v) : RV B Tg w mr x v := by
  cases x <;> simp [outA] at hx <;> simp only [VR, RV] at h ⊢ <;> first | exact h | exact h.1
theorem out_owns {x : AV} (hx : outA x = true) : owns 4 x = [] := by
  cases x <;> simp [outA] at hx <;> simp [owns]
theorem out_imp {B : Nat} {x : AV} {v : Value} (hk : Keeps F w w' m m' L L') (hx : outA x = true) (h : RV B (tgOf F Tg w m L) w' mr x v) : VR F Tg w' m' L' (imp 4 0 x) v :=
  imp_sound 0 hk (fun k b e => by rw [e]; simp) 4 x v h (fun p hp => by rw [out_owns hx] at hp; cases hp)
theorem outs_imp {B : Nat} {cells : List AV} {vs : List Value} (hk : Keeps F w w' m m' L L') (hx : cells.all outA = true) (h : ∀ (i : Nat) (x : AV), cells[i]? = some x → ∃ u, vs[i]? = some u ∧ RV B (tgOf F Tg w m L) w' mr x u) : VRpre F Tg w' m' L' (cells.map (imp 4 0)) vs :=
  VRpre.of_get fun i x hi => by
    rw [List.getElem?_map] at hi
    cases hc : cells[i]? with
    | none => rw [hc] at hi; cases hi
    | some z =>
      rw [hc] at hi
      simp only [Option.map_some, Option.some.injEq] at hi
      subst hi
      obtain ⟨u, hu, hr⟩ := h i z hc
      exact ⟨u, hu, out_imp hk (List.all_eq_true.1 hx z (List.mem_of_getElem? hc)) hr⟩
theorem callPK_sound (h : Rel F Tg pn N w0 noSh m fr L a w) {k : Nat} {cells : List AV} (hk : L k = .live (.av cells)) {f : FuncId} {args : List AV} {cargs : Array Value} (hargs : VRs F Tg w m L args cargs.toList) {K : AV → Loc → Prop} (hc : callPK X L k cells f args K) :
    ∃ y L', K y L' ∧ Invokes X.P f cargs w fun v w' => Rel F Tg pn N w0 noSh m fr L' a w' ∧ VR F Tg w' m L' y v := by
  unfold callPK at hc
  rw [forceL_eq, forceL_eq] at hc
  obtain ⟨y, cells', ⟨hd, hout⟩, hK⟩ := hc
  rw [forceL_eq] at hK
  refine ⟨_, _, hK, ?_⟩
  obtain ⟨hnF, c, t, hb, hsz, hpre⟩ := h.heap k _ hk trivial
  simp only [Blk.cells] at hpre
  have fzs : ∀ n x v, VR F Tg w m L x v → VR (fun b => b < w.heap.size ∧ b ≠ (m k).1) (tgOf F Tg w m L) w (fun _ => m k) (upd L0 LK (.live (.av (cells.map (fz 3 (upd L k .dead)))))) (fz n (upd L k .dead) x) v := fun n x v hv =>
    fz_sound h.heap (K := fun i => i ≠ k) (fun b hb => ⟨h.sub b hb, fun e => hnF (e ▸ hb)⟩) (fun i b hi hb hbh => ⟨h.heap.lt hb hbh, fun e => by
        rcases h.inj i k _ _ hb hbh hk trivial e with e' | e' | e'
        · exact hi e'
        · exact e'
        · exact e'⟩)
      (fun i b hb _ => by
        by_cases e : i = k
        · subst e; rw [upd_same] at hb; cases hb
        · rwa [upd_ne _ _ e] at hb)
      (fun i b hb e => by subst e; rw [upd_same] at hb; cases hb) n x v hv
  have lends : ∀ x v, VR F Tg w m L x v → VR (fun b => b < w.heap.size ∧ b ≠ (m k).1) (tgOf F Tg w m L) w (fun _ => m k) (upd L0 LK (.live (.av (cells.map (fz 3 (upd L k .dead)))))) (lendP k (upd L k .dead) x) v := fun x v hv => by
    unfold lendP
    split
    · rename_i j off
      split
      · rename_i hj
        have hj := Nat.eq_of_beq_eq_true hj
        subst hj
        simp only [VR, upd_same] at hv ⊢
        exact ⟨by simp, fun b e => hv.2 _ hk⟩
      · exact fzs _ _ _ hv
    · exact fzs _ _ _ hv
  have hpre' : VRpre (fun b => b < w.heap.size ∧ b ≠ (m k).1) (tgOf F Tg w m L) w (fun _ => m k) (upd L0 LK (.live (.av (cells.map (fz 3 (upd L k .dead)))))) (cells.map (fz 3 (upd L k .dead))) c.toList :=
    VRpre.of_get fun i x hi => by
      rw [List.getElem?_map] at hi
      cases hz : cells[i]? with
      | none => rw [hz] at hi; cases hi
      | some z =>
        rw [hz] at hi
        simp only [Option.map_some, Option.some.injEq] at hi
        subst hi
        obtain ⟨u, hu, hr⟩ := hpre.get hz
        exact ⟨u, hu, fzs 3 z u hr⟩
  have := hd (tgOf F Tg w m L) w (fun _ => m k) cargs c t hb hsz hpre' (hargs.map fun x v hv => lends x v hv)
  refine this.mono fun v w' ⟨hkp, hy, c', t', g1, g2, g3⟩ => ?_
  have hF : Kept F w w' := hkp.mono fun b hb => ⟨h.sub b hb, fun e => hnF (e ▸ hb)⟩
  have hkeep : Keeps F w w' m m L (upd L k (.live (.av (cells'.map (imp 4 0))))) := by
    refine ⟨fun b o hb' => hF.cell hb' o, fun i hi => ?_, fun i b' hi hbl => ?_⟩
    · by_cases e : i = k
      · subst e; simp
      · rw [upd_ne _ _ e]; exact hi
    · by_cases e : i = k
      · subst e; rw [upd_same] at hbl; cases hbl; exact ⟨_, hk, rfl, trivial⟩
      · rw [upd_ne _ _ e] at hbl; exact ⟨b', hbl, rfl, b'.like_refl⟩
  have hli : ∀ i c, (upd L k (.live (.av (cells'.map (imp 4 0))))) i = .live c → c.has → ∃ c', L i = .live c' ∧ c'.has := fun i c hc hh => by
    by_cases hi : i = k
    · subst hi; exact ⟨_, hk, trivial⟩
    · rw [upd_ne _ _ hi] at hc; exact ⟨_, hc, hh⟩
  refine ⟨⟨h.kept.trans hF, fun b hb => Nat.lt_of_lt_of_le (h.sub b hb) hkp.size, fun i B hB hBh => ?_, fun i j c1 c2 hi hb1 hj hb2 => ?_, fun p b' e hb' => (by
    by_cases hk' : LK = k
    · subst hk'; exact h.pin p _ e hk
    · rw [upd_ne _ _ hk'] at hb'; exact h.pin p _ e hb'), h.size, h.defers, fun t => (h.tmps t).keep hkeep⟩, hy.vr⟩
  · by_cases hi : i = k
    · subst hi
      rw [upd_same] at hB; cases hB
      exact ⟨hnF, c', t', g1, by rw [g2, hsz], outs_imp hkeep hout g3⟩
    · rw [upd_ne _ _ hi] at hB
      obtain ⟨e1, c1, t1, e2, e3, e4⟩ := h.heap i B hB hBh
      refine ⟨e1, c1, t1, ?_, e3, e4.keep hkeep⟩
      rw [hkp.block _ ⟨h.heap.lt hB hBh, fun e => by
        rcases h.inj i k _ _ hB hBh hk trivial e with e' | e' | e'
        · exact hi e'
        · exact e'
        · exact e'⟩]
      exact e2
  · obtain ⟨_, hi', hbi⟩ := hli i _ hi hb1
    obtain ⟨_, hj', hbj⟩ := hli j _ hj hb2
    exact h.inj i j _ _ hi' hbi hj' hbj
theorem callQK_sound (h : Rel F Tg pn N w0 noSh m fr L a w) {d k : Nat} {cells : List AV} (hk : L k = .live (.av cells)) {f : FuncId} {args : List AV} {cargs : Array Value} (hargs : VRs F Tg w m L args cargs.toList) {K : AV → Loc → Prop} (hc : callQK X L d k cells f args K) :
    ∃ y L', K y L' ∧ Invokes X.P f cargs w fun v w' => ∃ m', Rel F Tg pn N w0 noSh m' fr L' a w' ∧ VR F Tg w' m' L' y v := by
  unfold callQK at hc
  rw [forceL_eq, forceL_eq] at hc
  obtain ⟨r, cells', ⟨hd, hout⟩, hK⟩ := hc
  rw [forceL_eq] at hK
  split at hK
  case h_2 => exact hK.elim
  rename_i hfree
  rw [forceA_eq, adoptK_eq] at hK
  refine ⟨_, _, hK, ?_⟩
  obtain ⟨hfr1, hnd⟩ := freeB_spec hfree
  obtain ⟨hnF, c, t, hb, hsz, hpre⟩ := h.heap k _ hk trivial
  simp only [Blk.cells] at hpre
  have fzs : ∀ n x v, VR F Tg w m L x v → VR (fun b => b < w.heap.size ∧ b ≠ (m k).1) (tgOf F Tg w m L) w (fun _ => m k) (upd L0 LK (.live (.av (cells.map (fz 3 (upd L k .dead)))))) (fz n (upd L k .dead) x) v := fun n x v hv =>
    fz_sound h.heap (K := fun i => i ≠ k) (fun b hb => ⟨h.sub b hb, fun e => hnF (e ▸ hb)⟩) (fun i b hi hb hbh => ⟨h.heap.lt hb hbh, fun e => by
        rcases h.inj i k _ _ hb hbh hk trivial e with e' | e' | e'
        · exact hi e'
        · exact e'
        · exact e'⟩)
      (fun i b hb _ => by
        by_cases e : i = k
        · subst e; rw [upd_same] at hb; cases hb
        · rwa [upd_ne _ _ e] at hb)
      (fun i b hb e => by subst e; rw [upd_same] at hb; cases hb) n x v hv
  have lends : ∀ x v, VR F Tg w m L x v → VR (fun b => b < w.heap.size ∧ b ≠ (m k).1) (tgOf F Tg w m L) w (fun _ => m k) (upd L0 LK (.live (.av (cells.map (fz 3 (upd L k .dead)))))) (lendP k (upd L k .dead) x) v := fun x v hv => by
    unfold lendP
    split
    · rename_i j off
      split
      · rename_i hj
        have hj := Nat.eq_of_beq_eq_true hj
        subst hj
        simp only [VR, upd_same] at hv ⊢
        exact ⟨by simp, fun b e => hv.2 _ hk⟩
      · exact fzs _ _ _ hv
    · exact fzs _ _ _ hv
  have lendq : ∀ x v, VR F Tg w m L x v → VR (fun b => b < w.heap.size ∧ b ≠ (m k).1) (tgOf F Tg w m L) w (fun _ => m k) (upd L0 LK (.live (.av (cells.map (fz 3 (upd L k .dead)))))) (lendQ k (upd L k .dead) x) v := fun x v hv => by
    unfold lendQ
    split
    · simp only [VR] at hv ⊢
      obtain ⟨cs, e, hcs⟩ := hv
      exact ⟨cs, e, hcs.map fun x v hv => lends x v hv⟩
    · exact fzs _ _ _ hv
  have hpre' : VRpre (fun b => b < w.heap.size ∧ b ≠ (m k).1) (tgOf F Tg w m L) w (fun _ => m k) (upd L0 LK (.live (.av (cells.map (fz 3 (upd L k .dead)))))) (cells.map (fz 3 (upd L k .dead))) c.toList :=
    VRpre.of_get fun i x hi => by
      rw [List.getElem?_map] at hi
      cases hz : cells[i]? with
      | none => rw [hz] at hi; cases hi
      | some z =>
        rw [hz] at hi
        simp only [Option.map_some, Option.some.injEq] at hi
        subst hi
        obtain ⟨u, hu, hr⟩ := hpre.get hz
        exact ⟨u, hu, fzs 3 z u hr⟩
  have := hd (tgOf F Tg w m L) w (fun _ => m k) cargs c t hb hsz hpre' (hargs.map fun x v hv => lendq x v hv)
  refine this.mono fun v w' ⟨hkp, ⟨c', t', g1, g2, g3⟩, mr, hrv, hinj⟩ => ?_
  have hF : Kept F w w' := hkp.mono fun b hb => ⟨h.sub b hb, fun e => hnF (e ▸ hb)⟩
  have hkeep : Keeps F w w' m m L (upd L k (.live (.av (cells'.map (imp 4 0))))) := by
    refine ⟨fun b o hb' => hF.cell hb' o, fun i hi => ?_, fun i b' hi hbl => ?_⟩
    · by_cases e : i = k
      · subst e; simp
      · rw [upd_ne _ _ e]; exact hi
    · by_cases e : i = k
      · subst e; rw [upd_same] at hbl; cases hbl; exact ⟨_, hk, rfl, trivial⟩
      · rw [upd_ne _ _ e] at hbl; exact ⟨b', hbl, rfl, b'.like_refl⟩
  have hli : ∀ i c, (upd L k (.live (.av (cells'.map (imp 4 0))))) i = .live c → c.has → ∃ c', L i = .live c' ∧ c'.has := fun i c hc hh => by
    by_cases hi : i = k
    · subst hi; exact ⟨_, hk, trivial⟩
    · rw [upd_ne _ _ hi] at hc; exact ⟨_, hc, hh⟩
  have hR : Rel F Tg pn N w0 noSh m fr (upd L k (.live (.av (cells'.map (imp 4 0))))) a w' := by
    refine ⟨h.kept.trans hF, fun b hb => Nat.lt_of_lt_of_le (h.sub b hb) hkp.size, fun i B hB hBh => ?_, fun i j c1 c2 hi hb1 hj hb2 => ?_, fun p b' e hb' => (by
      by_cases hk' : LK = k
      · subst hk'; exact h.pin p _ e hk
      · rw [upd_ne _ _ hk'] at hb'; exact h.pin p _ e hb'), h.size, h.defers, fun t => (h.tmps t).keep hkeep⟩
    · by_cases hi : i = k
      · subst hi
        rw [upd_same] at hB; cases hB
        exact ⟨hnF, c', t', g1, by rw [g2, hsz], outs_imp hkeep hout g3⟩
      · rw [upd_ne _ _ hi] at hB
        obtain ⟨e1, c1, t1, e2, e3, e4⟩ := h.heap i B hB hBh
        refine ⟨e1, c1, t1, ?_, e3, e4.keep hkeep⟩
        rw [hkp.block _ ⟨h.heap.lt hB hBh, fun e => by
          rcases h.inj i k _ _ hB hBh hk trivial e with e' | e' | e'
          · exact hi e'
          · exact e'
          · exact e'⟩]
        exact e2
    · obtain ⟨_, hi', hbi⟩ := hli i _ hi hb1
      obtain ⟨_, hj', hbj⟩ := hli j _ hj hb2
      exact h.inj i j _ _ hi' hbi hj' hbj
  obtain ⟨m', k1, k2, k3⟩ := hR.adopt (B0 := w.heap.size) (mr := mr) d h.sub (owns 4 r) hnd (fun p hp => (hfr1 p hp).2.1) (fun p hp => (hfr1 p hp).2.2) (owns_block 4 r v hrv) hinj (by
    intro i c hi hh p hp hph e
    obtain ⟨c2, hc2, hh2⟩ := hli i c hi hh
    have := h.heap.lt hc2 hh2
    rcases owns_block 4 r v hrv p hp with ⟨r', e'⟩ | ⟨_, h1, _⟩
    · rw [e'] at hph; exact hph rfl
    · omega)
  refine ⟨m', k1, ?_⟩
  exact imp_sound (t := d) (hkeep.trans k2) (fun k b e => by rw [e]; simp) 4 r v hrv fun p hp => ⟨k3 p hp, adopt_live hnd p hp⟩
theorem callNK_sound (h : Rel F Tg pn N w0 noSh m fr L a w) {d : Nat} {f : FuncId} {args : List AV} {cargs : Array Value} (hargs : VRs F Tg w m L args cargs.toList) {K : AV → Loc → Prop} (hc : callNK X L d f args K) :
    ∃ y L', K y L' ∧ Invokes X.P f cargs w fun v w' => ∃ m', Rel F Tg pn N w0 noSh m' fr L' a w' ∧ VR F Tg w' m' L' y v := by
  unfold callNK at hc
  rw [forceL_eq] at hc
  obtain ⟨cells, ⟨hd, hout⟩, hK⟩ := hc
  split at hK
  case h_2 => exact hK.elim
  rename_i hfree
  rw [forceL_eq] at hK
  refine ⟨_, _, hK, ?_⟩
  obtain ⟨h1, _⟩ := freeB_spec hfree
  have hf0 := (h1 (0, .av []) (by simp)).2.1
  have hLK := (h1 (0, .av []) (by simp)).2.2
  simp only at hf0 hLK
  have hl : ∀ k b, L k = .live b → b.has → (m k).1 < w.heap.size := fun k b e hh => h.heap.lt e hh
  have := hd (tgOf F Tg w m L) w m cargs (hargs.map fun x v hv => fz_sound h.heap (G := fun b => b < w.heap.size) (K := fun _ => True) h.sub (fun k b _ e hh => hl k b e hh) Ext.refl (fun _ _ _ => trivial) 4 x v hv)
  refine this.mono fun v w' ⟨hb, b, c, t, hge, hv, hblk, hcells⟩ => ?_
  have hk1 : Keeps F w w' m m L L := .of_kept (.of_below hb h.sub)
  have hk2 : Keeps F w' w' m (upd m (d * 4 + 0) (b, c.size)) L (upd L (d * 4 + 0) (.live (.av (cells.map (imp 4 0))))) := .fresh hf0 _ _ (by simp)
  refine ⟨_, (h.world hb).new hf0 hLK b (.av (cells.map (imp 4 0))) c t hblk (fun hFb => absurd (h.sub b hFb) (by omega)) (fun k' c' hc' hh _ e => absurd (hl k' c' hc' hh) (by omega)) (outs_imp (hk1.trans hk2) hout hcells), ?_⟩
  simp only [VR, upd_same]
  exact ⟨by simp, fun _ _ => hv⟩
theorem callMK_sound (h : Rel F Tg pn N w0 noSh m fr L a w) {f : FuncId} {args : List AV} {cargs : Array Value} (hargs : VRs F Tg w m L args cargs.toList) {K : AV → Loc → Prop} (hc : callMK X L f args K) :
    ∃ y L', K y L' ∧ Invokes X.P f cargs w fun v w' => Rel F Tg pn N w0 noSh m fr L' a w' ∧ VR F Tg w' m L' y v := by
  unfold callMK at hc
  split at hc
  case h_2 => exact hc.elim
  rename_i k _
  split at hc
  case h_3 => exact hc.elim
  case h_1 => rename_i cells hk; exact callPK_sound h hk hargs hc
  rename_i r xs hk
  rw [forceL_eq] at hc
  obtain ⟨y, ys, ⟨hd, hlen⟩, hK⟩ := hc
  refine ⟨_, _, hK, ?_⟩
  have hblk : ∃ c t, xs ≠ [] → ¬ F (m k).1 ∧ w.heap[(m k).1]? = some (.cells c t (0, 0)) ∧ c.size = (m k).2 ∧ RowsIn r xs c.toList := by
    by_cases hne : xs = []
    · exact ⟨#[], 0, fun h => absurd hne h⟩
    · obtain ⟨hnF, c, t, hb, hsz, hpre⟩ := h.heap k _ hk hne
      exact ⟨c, t, fun _ => ⟨hnF, hb, hsz, hpre.rows⟩⟩
  obtain ⟨c, t, hblk⟩ := hblk
  have hempty : xs ≠ [] ↔ ys ≠ [] := by rw [← List.length_pos_iff, ← List.length_pos_iff, hlen]
  have := hd (tgOf F Tg w m L) w (fun _ => m k) cargs c t (fun hne => (hblk hne).2) (hargs.map fun x v hv => lend_sound (m' := fun _ => m k) h hk hv rfl)
  refine this.mono fun v w' ⟨hkp, hy, hres⟩ => ?_
  have hF : Kept F w w' := hkp.mono fun b hb => ⟨h.sub b hb, fun hne e => (hblk hne).1 (e ▸ hb)⟩
  have hkeep : Keeps F w w' m m L (upd L k (.live (.tab r ys))) := by
    refine ⟨fun b o hb' => hF.cell hb' o, fun i hi => ?_, fun i b' hi hbl => ?_⟩
    · by_cases e : i = k
      · subst e; simp
      · rw [upd_ne _ _ e]; exact hi
    · by_cases e : i = k
      · subst e; rw [upd_same] at hbl; cases hbl; exact ⟨_, hk, rfl, rfl, hlen.symm⟩
      · rw [upd_ne _ _ e] at hbl; exact ⟨b', hbl, rfl, b'.like_refl⟩
  have hli : ∀ i c, (upd L k (.live (.tab r ys))) i = .live c → c.has → ∃ c', L i = .live c' ∧ c'.has := fun i c hc hh => by
    by_cases hi : i = k
    · subst hi; rw [upd_same] at hc; cases hc; exact ⟨_, hk, hempty.2 hh⟩
    · rw [upd_ne _ _ hi] at hc; exact ⟨_, hc, hh⟩
  refine ⟨⟨h.kept.trans hF, fun b hb => Nat.lt_of_lt_of_le (h.sub b hb) hkp.size, fun i B hB hBh => ?_, fun i j c1 c2 hi hb1 hj hb2 => ?_, fun p b' e hb' => (by
    by_cases hk' : LK = k
    · subst hk'; exact h.pin p _ e hk
    · rw [upd_ne _ _ hk'] at hb'; exact h.pin p _ e hb'), h.size, h.defers, fun t => (h.tmps t).keep hkeep⟩, hy.vr⟩
  · by_cases hi : i = k
    · subst hi
      rw [upd_same] at hB; cases hB
      have hne := hempty.2 hBh
      obtain ⟨hnF, hb, hsz, _⟩ := hblk hne
      obtain ⟨c', t', g1, g2, g3⟩ := hres hne
      exact ⟨hnF, c', t', g1, by rw [g2, hsz], g3.pre⟩
    · rw [upd_ne _ _ hi] at hB
      obtain ⟨e1, c1, t1, e2, e3, e4⟩ := h.heap i B hB hBh
      refine ⟨e1, c1, t1, ?_, e3, e4.keep hkeep⟩
      rw [hkp.block _ ⟨h.heap.lt hB hBh, fun hne e => by
        rcases h.inj i k _ _ hB hBh hk hne e with e' | e' | e'
        · exact hi e'
        · exact e'
        · exact e'⟩]
      exact e2
  · obtain ⟨_, hi', hbi⟩ := hli i _ hi hb1
    obtain ⟨_, hj', hbj⟩ := hli j _ hj hb2
    exact h.inj i j _ _ hi' hbi hj' hbj

theorem Rel.sharp (h : Rel F Tg pn N w0 noSh m fr L a w) (sh : Sh) : Rel F Tg pn N w0 sh m fr L a w := h.weaken fun _ _ e => e.elim
theorem quietK_sound (h : Rel F Tg pn X.N w0 noSh m fr L a w) {o : Oper} {K : Fr → Loc → Prop} (hq : quietK X o fr L K) :
    Yields X.P o a w fun v w' => ∃ m' fr' L', Rel F Tg pn X.N w0 noSh m' fr' L' (a.put o.dst v) w' ∧ K fr' L' := by
  have hq : ∃ d, d = o.dst.getD 0 ∧ qOp X L d o fr fun y os ks => forceA y fun y => match freeB d L os && ksOk d ks with
    | true => putK X.N fr o.dst y fun fr => adoptK d L os fun L => killK ks L fun L => K fr L
    | false => False := by
    unfold quietK at hq
    split at hq
    · rename_i d hd; exact ⟨d, by rw [hd]; rfl, by rw [hd]; exact hq⟩
    · rename_i hd; exact ⟨0, by rw [hd]; rfl, by rw [hd]; exact hq⟩
  obtain ⟨d, hd, hq⟩ := hq
  obtain ⟨y, os, ks, hK, hq1⟩ := qOp_ex hq
  have hq' := hq1 (fun y' os' ks' => y' = y ∧ os' = os ∧ ks' = ks) (And.intro rfl (And.intro rfl rfl))
  rw [forceA_eq] at hK
  split at hK
  case h_2 => exact hK.elim
  rename_i hf
  simp only [Bool.and_eq_true] at hf
  obtain ⟨h1, h2⟩ := freeB_spec hf.1
  rw [putK_eq, adoptK_eq, killK_eq] at hK
  let sh : Sh := fun i j => i = d * 4 ∧ j ∈ ks
  obtain ⟨y', os', ks', ⟨rfl, rfl, rfl⟩, hy⟩ := qOp_sound (h.sharp sh) Ext.refl hd hq'
  rw [← hd] at hy
  have happ : ∀ k ∈ ks', AppOk sh (d * 4) k := fun k hk => by
    refine ⟨⟨rfl, hk⟩, fun i hi => hi.1, fun i hi => ?_⟩
    have h3 := hf.2
    simp only [ksOk, Bool.not_eq_true', List.any_eq_false] at h3
    exact h3 k hk (by simpa using hi.1)
  refine (hy (fun p hp => (h1 p hp).2.1) (fun p hp => (h1 p hp).2.2) h2 happ).mono fun v w' ⟨m', g1, g2⟩ => ?_
  exact ⟨m', _, _, (g1.put o.dst g2).kill ks' fun i j hij => hij.2, hK⟩
theorem awpOp_sound (h : Rel F Tg pn X.N w0 noSh m fr L a w) {o : Oper} {K : Fr → Loc → Prop} (hq : awpOp X o fr L K) :
    Yields X.P o a w fun v w' => ∃ m' fr' L', Rel F Tg pn X.N w0 noSh m' fr' L' (a.put o.dst v) w' ∧ K fr' L' := by
  unfold awpOp at hq
  split at hq
  · rename_i T x y ho
    split at hq
    · rename_i L' hs
      obtain ⟨w', h1, h2⟩ := storeA_sound (P := X.P) h (h.ev x) (h.ev y) hs
      rw [putK_eq] at hq
      refine Yields.skip (w' := w') ?_ ⟨m, _, _, h2.put o.dst (by simp [VR]), hq⟩
      simp [execOp, ho, h1]
    · exact hq.elim
  · split at hq
    · rename_i f hf
      split at hq
      · obtain ⟨dst, op, type, pos, after, guard⟩ := o
        unfold mutF at hf
        split at hf
        · rename_i c ho
          simp only at ho
          subst ho
          obtain ⟨callee, args, ats⟩ := c
          split at hf
          · rename_i g hg
            simp only at hg
            subst hg
            split at hf
            · cases hf
              obtain ⟨y, L', hK, hI⟩ := callMK_sound h (f := f) (args := args.toList.map (evA fr)) (cargs := args.map a.eval) (by simpa using h.evs args.toList) hq
              rw [putK_eq] at hK
              have hI' : Invokes X.P f (args.map a.eval ++ #[]) w fun v w' => Rel F Tg pn X.N w0 noSh m fr L' a w' ∧ VR F Tg w' m L' y v := by simpa using hI
              exact (Yields.call (cs := #[]) rfl hI').mono fun v w' ⟨g1, g2⟩ => ⟨m, _, _, g1.put dst g2, hK⟩
            · cases hf
          · cases hf
        · cases hf
      · split at hq
        · obtain ⟨dst, op, type, pos, after, guard⟩ := o
          unfold mutF at hf
          split at hf
          · rename_i c ho
            simp only at ho
            subst ho
            obtain ⟨callee, args, ats⟩ := c
            split at hf
            · rename_i g hg
              simp only at hg
              subst hg
              split at hf
              · cases hf
                obtain ⟨y, L', hK, hI⟩ := callNK_sound h (f := f) (args := args.toList.map (evA fr)) (cargs := args.map a.eval) (by simpa using h.evs args.toList) hq
                rw [putK_eq] at hK
                have hI' : Invokes X.P f (args.map a.eval ++ #[]) w fun v w' => ∃ m', Rel F Tg pn X.N w0 noSh m' fr L' a w' ∧ VR F Tg w' m' L' y v := by simpa using hI
                exact (Yields.call (cs := #[]) rfl hI').mono fun v w' ⟨m', g1, g2⟩ => ⟨m', _, _, g1.put dst g2, hK⟩
              · cases hf
            · cases hf
          · cases hf
        · exact quietK_sound h hq
    · split at hq
      · rename_i f caps hd
        obtain ⟨dst, op, type, pos, after, guard⟩ := o
        unfold dynF at hd
        split at hd
        · rename_i c ho
          simp only at ho
          subst ho
          obtain ⟨callee, args, ats⟩ := c
          split at hd
          · rename_i x hg
            simp only at hg
            subst hg
            split at hd
            · rename_i f' caps' he
              cases hd
              have hx := h.ev x
              rw [he] at hx
              simp only [VR] at hx
              obtain ⟨cs, ex, hcs⟩ := hx
              have hargs : VRs F Tg w m L (args.toList.map (evA fr) ++ caps) (args.map a.eval ++ cs).toList := by
                rw [Array.toList_append, Array.toList_map]
                exact (h.evs args.toList).append hcs
              split at hq
              · obtain ⟨y, L', hK, hI⟩ := callMK_sound h hargs hq
                rw [putK_eq] at hK
                exact (Yields.call ex hI).mono fun v w' ⟨g1, g2⟩ => ⟨m, _, _, g1.put dst g2, hK⟩
              · split at hq
                · split at hq
                  · rename_i cells hL
                    obtain ⟨y, L', hK, hI⟩ := callQK_sound h hL hargs hq
                    rw [putK_eq] at hK
                    exact (Yields.call ex hI).mono fun v w' ⟨m', g1, g2⟩ => ⟨m', _, _, g1.put dst g2, hK⟩
                  · exact hq.elim
                · exact quietK_sound h hq
            · cases hd
          · cases hd
        · cases hd
      · exact quietK_sound h hq

theorem Rel.setB (h : Rel F Tg pn X.N w0 sh m fr L a w) {d : Nat} {b : Bool} (hd : fr d = .bool b) : Rel F Tg pn X.N w0 sh m (upd fr d (.bool b)) L a w := h.known hd
/-- One operation of a region, in its turn. -/
theorem stepA_sound (h : Rel F Tg pn X.N w0 noSh m fr L a w) {ops : Array Oper} {o : Oper} {K : Fr → Loc → Prop} (hk : stepA X ops o fr L K) {R : Act → World → Prop} {Q : Exit → Act → World → Prop}
    (hR : ∀ m fr L a w, Rel F Tg pn X.N w0 noSh m fr L a w → K fr L → R a w) :
    if Region.wanted o (yielded ops a.tmps) then o.wp X.P a w R Q ∨ (o.asks X.P a w ∧ LetsOut Q) else R (a.put o.dst Go.undef) w := by
  have hrun : ∀ {fr : Fr}, Rel F Tg pn X.N w0 noSh m fr L a w → awpOp X o fr L K → o.wp X.P a w R Q := fun h hq =>
    awpOp_sound h hq _ Q fun v w' ⟨m', fr', L', h1, h2⟩ => hR _ _ _ _ _ h1 h2
  have hskip : ∀ {fr : Fr}, Rel F Tg pn X.N w0 noSh m fr L a w → K (putA X.N fr o.dst .skip) L → R (a.put o.dst Go.undef) w := fun h hq =>
    hR _ _ _ _ _ (h.put o.dst (by simp [VR])) hq
  unfold stepA at hk
  split at hk
  · rename_i hg
    rw [if_pos (by simp [Region.wanted, hg])]
    exact .inl (hrun h hk)
  · rename_i j want hg
    split at hk
    · rename_i d hd
      split at hk
      · rename_i b hb
        rw [guard_yes h hg hd hb]
        have hfd : fr d = .bool b := by
          split at hb
          · exact hb
          · cases hb
        cases want <;> simp only [putK_eq] at hk <;> replace hk := br_elim hk <;> cases b
        · exact .inl (hrun (h.known hfd) (hk.2 rfl))
        · rw [if_neg (by simp)]; exact hskip (h.known hfd) (hk.1 rfl)
        · rw [if_neg (by simp)]; exact hskip (h.known hfd) (hk.2 rfl)
        · exact .inl (hrun (h.known hfd) (hk.1 rfl))
      · rename_i hb
        rw [guard_skip h hg hd hb, if_neg (by simp)]
        rw [putK_eq] at hk
        exact hskip h hk
      · exact hk.elim
    · exact hk.elim
theorem awpOps_sound {ops : Array Oper} {Q : Exit → Act → World → Prop} {K : Fr → Loc → Prop} (hQ : ∀ m fr L a w, Rel F Tg pn X.N w0 noSh m fr L a w → K fr L → Q .normal a w) :
    ∀ (l : List Oper) {m : Mp} {fr : Fr} {L : Loc} {a : Act} {w : World}, Rel F Tg pn X.N w0 noSh m fr L a w → awpOps X ops l fr L K → wpList X.P ops Q l a w
  | [], m, fr, L, a, w, h, hk => hQ m fr L a w h hk
  | o :: rest, m, fr, L, a, w, h, hk => by
    unfold wpList
    exact stepA_sound h hk fun m fr L a w h hk => awpOps_sound hQ rest h hk
end
end Go.Bx
