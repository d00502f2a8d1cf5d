/- The executor: a region whose order is open. One walk, in the order of the text, serves every order. -/
import Derived.Test.YtkjdcbgliekjnaaAxW
namespace Go.Ax
open Go.RowKit (Below)

/-- 'K x', x brought to its head form first. -/
def forceA (x : AV) (K : AV → Prop) : Prop :=
  match x with
  | .undef => K .undef
  | .skip => K .skip
  | .bool b => K (.bool b)
  | .int k n => K (.int k n)
  | .flt k x => K (.flt k x)
  | .fbits x => K (.fbits x)
  | .cpx k x y => K (.cpx k x y)
  | .nilsl => K .nilsl
  | .loc k g off => K (.loc k g off)
  | .lsl k g off len e => K (.lsl k g off len e)
  | .ref cells t => K (.ref cells t)
  | .sli e len cells t => K (.sli e len cells t)
  | .own k e len cells => K (.own k e len cells)
  | .agg cells => K (.agg cells)
  | .tup vs => K (.tup vs)
  | .fn f caps => K (.fn f caps)
theorem forceA_eq (x : AV) (K : AV → Prop) : forceA x K = K x := by cases x <;> rfl
def putK (N : Nat) (fr : Fr) (dst : Option Tmp) (v : AV) (K : Fr → Prop) : Prop :=
  match dst with
  | none => K fr
  | some d => match Nat.blt d N with
    | true => K (upd fr d v)
    | false => K (upd fr d .undef)
theorem putK_eq (N : Nat) (fr : Fr) (dst : Option Tmp) (v : AV) (K : Fr → Prop) : putK N fr dst v K = K (putA N fr dst v) := by
  cases dst with
  | none => rfl
  | some d =>
    simp only [putK, putA]
    cases h : Nat.blt d N with
    | true => rw [if_pos (Nat.blt_eq ▸ h)]
    | false => rw [if_neg (fun h' => by have h2 : Nat.blt d N = true := by rw [Nat.blt_eq]; exact h'
                                        rw [h2] at h; cases h)]
def adoptK (t : Nat) (L : Loc) (os : List (Nat × List AV)) (K : Loc → Prop) : Prop :=
  match os with
  | [] => K L
  | (i, cells) :: os => adoptK t (upd L (t * 4 + i) ((L (t * 4 + i)).1 + 1, some cells)) os K
theorem adoptK_eq (t : Nat) (K : Loc → Prop) : ∀ (os : List (Nat × List AV)) (L : Loc), adoptK t L os K = K (adoptL t L os)
  | [], _ => rfl
  | (i, cells) :: os, L => by rw [adoptK, adoptK_eq t K os, adoptL_cons]

section
variable {B B0 N : Nat} {Tg Tg' : AV → Value → Prop} {w0 w w' : World} {m m' mr : Mp} {L L' : Loc} {fr : Fr} {a : Act} {X : Cx}
theorem guard_yes (h : Rel B Tg X.N w0 m fr L a w) {o : Oper} {ops : Array Oper} {j d : Nat} {want b : Bool} (hg : o.guard = some (j, want)) (hd : (ops[j]?).bind (·.dst) = some d) (hb : (if d < X.N then fr d else .undef) = .bool b) :
    Region.wanted o (yielded ops a.tmps) = (b == want) := by
  have hdN : d < X.N := by
    rcases Nat.lt_or_ge d X.N with h' | h'
    · exact h'
    · rw [if_neg (by omega)] at hb; cases hb
  rw [if_pos hdN] at hb
  have ht := h.tmps d
  rw [hb] at ht
  simp only [VR] at ht
  have hs := h.size
  simp only [Array.getD_eq_getD_getElem?] at ht
  have hget : a.tmps[d]? = some (.bool b) := by
    cases hq : a.tmps[d]? with
    | none => rw [Array.getElem?_eq_none_iff] at hq; omega
    | some v => rw [hq] at ht; simpa using ht
  simp only [Region.wanted, hg, yielded, hd, Option.bind_some, hget]
  cases b <;> cases want <;> rfl
theorem guard_skip (h : Rel B Tg X.N w0 m fr L a w) {o : Oper} {ops : Array Oper} {j d : Nat} {want : Bool} (hg : o.guard = some (j, want)) (hd : (ops[j]?).bind (·.dst) = some d) (hb : (if d < X.N then fr d else .undef) = .skip) :
    Region.wanted o (yielded ops a.tmps) = false := by
  have hdN : d < X.N := by
    rcases Nat.lt_or_ge d X.N with h' | h'
    · exact h'
    · rw [if_neg (by omega)] at hb; cases hb
  rw [if_pos hdN] at hb
  have ht := h.tmps d
  rw [hb] at ht
  simp only [VR] at ht
  have hs := h.size
  simp only [Array.getD_eq_getD_getElem?] at ht
  have hget : a.tmps[d]? = some Go.undef := by
    cases hq : a.tmps[d]? with
    | none => rw [Array.getElem?_eq_none_iff] at hq; omega
    | some v => rw [hq] at ht; simpa using ht
  simp only [Region.wanted, hg, yielded, hd, Option.bind_some, hget, Go.undef]
  cases want <;> rfl

theorem Rel.known (h : Rel B Tg X.N w0 m fr L a w) {d : Nat} {b : Bool} (hd : fr d = .bool b) : Rel B Tg X.N w0 m (upd fr d (.bool b)) L a w := by
  rw [← hd, upd_self]; exact h
end

/-- Are the keys of the new blocks free? -/
def freeB (t : Nat) (L : Loc) : List (Nat × List AV) → Bool
  | [] => true
  | (i, _) :: os => Nat.blt i 4 && (L (t * 4 + i)).2.isNone && freeB t L os
/-- Each operation waits for each earlier one, or is apart from it. -/
def pairOk (ops : Array Oper) : Bool :=
  (List.range ops.size).all fun j => match ops[j]? with
    | none => true
    | some oj => oj.after.all (fun e => !Region.binds .any e || decide (e.on < j)) && (List.range j).all fun i => match ops[i]? with
      | none => true
      | some oi => oj.after.any (fun e => e.on == i && Region.binds .any e) || oi.apart ops oj
/-- The walk in the order of the text. -/
def lexD (X : Cx) (ops : Array Oper) : List Oper → Fr → Loc → (Fr → Loc → Prop) → Prop
  | [], fr, L, K => K fr L
  | o :: rest, fr, L, K => match o.dst with
    | none => False
    | some d0 => match o.guard with
      | none => qOp X L o fr fun y os => forceA y fun y => match freeB d0 L os with
        | true => putK X.N fr (some d0) y fun fr => adoptK d0 L os fun L => lexD X ops rest fr L K
        | false => False
      | some (j, want) => match (ops[j]?).bind (·.dst) with
        | some d => match (if d < X.N then fr d else .undef) with
          | .bool b => match want with
            | true => br b (qOp X L o (upd fr d (.bool true)) fun y os => forceA y fun y => match freeB d0 L os with
                | true => putK X.N (upd fr d (.bool true)) (some d0) y fun fr => adoptK d0 L os fun L => lexD X ops rest fr L K
                | false => False) (putK X.N (upd fr d (.bool false)) (some d0) .skip fun fr => lexD X ops rest fr L K)
            | false => br b (putK X.N (upd fr d (.bool true)) (some d0) .skip fun fr => lexD X ops rest fr L K) (qOp X L o (upd fr d (.bool false)) fun y os => forceA y fun y => match freeB d0 L os with
                | true => putK X.N (upd fr d (.bool false)) (some d0) y fun fr => adoptK d0 L os fun L => lexD X ops rest fr L K
                | false => False)
          | .skip => putK X.N fr (some d0) .skip fun fr => lexD X ops rest fr L K
          | _ => False
        | none => False

/-! ### One operation: what it looks at; its value -/
theorem qOp_congr {X : Cx} {L : Loc} {o : Oper} {fr fr' : Fr} {K : AV → List (Nat × List AV) → Prop} (h : ∀ x ∈ o.op.operands, evA fr x = evA fr' x) : qOp X L o fr K = qOp X L o fr' K := by
  obtain ⟨dst, op, type, pos, after, guard⟩ := o
  have pairs : ∀ ps : Array (Nat × Operand), (∀ x ∈ (ps.toList.map (·.2)).toArray, evA fr x = evA fr' x) →
      (ps.toList.map fun p => (p.1, evA fr p.2)) = (ps.toList.map fun p => (p.1, evA fr' p.2)) ∧ ((ps.toList.map (·.2)).all fun x => livesA L (evA fr x)) = ((ps.toList.map (·.2)).all fun x => livesA L (evA fr' x)) := fun ps hp => by
    have hp' : ∀ p ∈ ps.toList, evA fr p.2 = evA fr' p.2 := fun p hm => hp p.2 (by simp only [List.mem_toArray]; exact List.mem_map_of_mem hm)
    refine ⟨List.map_congr_left fun p hm => by rw [hp' p hm], ?_⟩
    rw [List.all_map, List.all_map, Bool.eq_iff_iff, List.all_eq_true, List.all_eq_true]
    constructor
    · intro H p hm; have := H p hm; simp only [Function.comp] at this ⊢; rw [← hp' p hm]; exact this
    · intro H p hm; have := H p hm; simp only [Function.comp] at this ⊢; rw [hp' p hm]; exact this
  unfold qOp
  cases op <;> simp only [Op.operands] at h <;> simp only
  case move x => rw [h x (by simp)]
  case assign x => rw [h x (by simp)]
  case pick c x y => rw [h c (by simp), h x (by simp), h y (by simp)]
  case box T x => rw [h x (by simp)]
  case build T ps => rw [(pairs ps h).1, (pairs ps h).2]
  case buildSlice T n ps => rw [(pairs ps h).1, (pairs ps h).2]
  case load T x => rw [h x (by simp)]
  case nilCheck x => rw [h x (by simp)]
  case binOp op T x y yT => rw [h x (by simp), h y (by simp)]
  case unOp op T x => rw [h x (by simp)]
  case convert s d x => rw [h x (by simp)]
  case makeFunc fn first caps =>
    cases fn <;> simp only
    rw [List.map_congr_left fun x hx => h x (by simp at hx ⊢; exact .inr hx)]
  case makeSlice T l c => rw [h l (by simp), h c (by simp)]
  case fieldAddr S x f => rw [h x (by simp)]
  case field T x f => rw [h x (by simp)]
  case indexAddr T x i => rw [h x (by simp), h i (by simp)]
  case index T x i => rw [h x (by simp), h i (by simp)]
  case extract x i => rw [h x (by simp)]
  case call c =>
    have hargs : c.args.toList.map (evA fr) = c.args.toList.map (evA fr') := List.map_congr_left fun x hx => h x (by simp [Call.operands]; exact .inr (by simpa using hx))
    cases hc : c.callee with
    | value x => simp only [hargs, h x (by simp [Call.operands, hc])]
    | invoke r n => rfl
    | builtin b => simp only [hargs]
/-- An operation's value does not hang on what is asked of it. -/
theorem qOp_ex {X : Cx} {L : Loc} {o : Oper} {fr : Fr} {K : AV → List (Nat × List AV) → Prop} (h : qOp X L o fr K) : ∃ y os, K y os ∧ qOp X L o fr fun y' os' => y' = y ∧ os' = os := by
  obtain ⟨dst, op, type, pos, after, guard⟩ := o
  unfold qOp at h ⊢
  cases op <;> simp only at h ⊢
  case move x => exact ⟨_, _, h, rfl, rfl⟩
  case assign x => exact ⟨_, _, h, rfl, rfl⟩
  case pick c x y =>
    split at h
    · rename_i p hp
      cases p with
      | true => exact ⟨_, _, h, rfl, rfl⟩
      | false => exact ⟨_, _, h, rfl, rfl⟩
    · exact h.elim
  case alloc T => split at h <;> first | exact ⟨_, _, h, rfl, rfl⟩ | exact h.elim
  case box T x => split at h <;> first | exact ⟨_, _, h, rfl, rfl⟩ | exact h.elim
  case build T ps =>
    split at h
    · split at h
      · split at h
        · exact ⟨_, _, h, rfl, rfl⟩
        · exact h.elim
      · exact h.elim
    · split at h
      · split at h
        · exact ⟨_, _, h, rfl, rfl⟩
        · exact h.elim
      · exact h.elim
    · exact h.elim
  case buildSlice T n ps =>
    split at h
    · split at h
      · split at h
        · rename_i h1; exact ⟨_, _, h, by rw [if_pos h1]; exact ⟨rfl, rfl⟩⟩
        · rename_i h1
          split at h
          · rename_i h2
            split at h
            · exact ⟨_, _, h, by rw [if_neg h1, if_pos h2]; exact ⟨rfl, rfl⟩⟩
            · exact h.elim
          · exact h.elim
      · exact h.elim
    · exact h.elim
  case load T x => split at h <;> first | exact ⟨_, _, h, rfl, rfl⟩ | exact h.elim
  case nilCheck x => split at h <;> first | exact ⟨_, _, h, rfl, rfl⟩ | exact h.elim
  case binOp op T x y yT => split at h <;> first | exact ⟨_, _, h, rfl, rfl⟩ | exact h.elim
  case unOp op T x => split at h <;> first | exact ⟨_, _, h, rfl, rfl⟩ | exact h.elim
  case convert s d x => split at h <;> first | exact ⟨_, _, h, rfl, rfl⟩ | exact h.elim
  case makeFunc fn first caps =>
    cases fn <;> simp only at h ⊢
    split at h <;> first | exact ⟨_, _, h, rfl, rfl⟩ | exact h.elim
  case makeSlice T l c =>
    split at h
    · split at h
      · obtain ⟨h1, h2, h3⟩ := h; exact ⟨_, _, h3, h1, h2, rfl, rfl⟩
      · exact h.elim
    · exact h.elim
  case fieldAddr S x f => split at h <;> first | exact ⟨_, _, h, rfl, rfl⟩ | exact h.elim
  case field T x f => split at h <;> first | exact ⟨_, _, h, rfl, rfl⟩ | exact h.elim
  case indexAddr T x i =>
    unfold ixaA at h ⊢
    split at h
    · obtain ⟨h1, h2, h3⟩ := h; exact ⟨_, _, h3, h1, h2, rfl, rfl⟩
    · obtain ⟨h1, h2, h4, h3⟩ := h; exact ⟨_, _, h3, h1, h2, h4, rfl, rfl⟩
    · obtain ⟨h1, h2, h3⟩ := h
      split at h3
      · exact ⟨_, _, h3, h1, h2, rfl, rfl⟩
      · exact h3.elim
    · obtain ⟨h2, h3⟩ := h
      split at h3
      · exact ⟨_, _, h3, h2, rfl, rfl⟩
      · exact h3.elim
    · exact h.elim
  case index T x i =>
    unfold ixvA at h ⊢
    split at h
    · obtain ⟨h2, h3⟩ := h
      split at h3
      · obtain ⟨h3, h4⟩ := h3; exact ⟨_, _, h4, h2, h3, rfl, rfl⟩
      · split at h3
        · exact ⟨_, _, h3, h2, rfl, rfl⟩
        · exact h3.elim
      · exact h3.elim
    · exact h.elim
  case extract x i =>
    split at h
    · split at h
      · exact ⟨_, _, h, rfl, rfl⟩
      · exact h.elim
    · exact h.elim
  case call c =>
    cases hc : c.callee with
    | value x =>
      simp only [hc] at h ⊢
      split at h
      · unfold callA at h ⊢
        split at h
        · split at h
          · exact ⟨_, _, h, rfl, rfl⟩
          · exact h.elim
        · exact h.elim
      · exact h.elim
    | invoke r n => simp only [hc] at h
    | builtin b =>
      simp only [hc] at h ⊢
      unfold builtinA at h ⊢
      split at h
      · split at h
        · split at h
          · exact ⟨_, _, h, rfl, rfl⟩
          · exact h.elim
        · exact h.elim
      · exact ⟨_, _, h, rfl, rfl⟩
      · exact ⟨_, _, h, rfl, rfl⟩
      · exact ⟨_, _, h.2, h.1, rfl, rfl⟩
      · exact ⟨_, _, h.2, h.1, rfl, rfl⟩
      · exact h.elim
end Go.Ax
