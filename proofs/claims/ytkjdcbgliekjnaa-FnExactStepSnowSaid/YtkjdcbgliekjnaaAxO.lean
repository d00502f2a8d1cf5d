/- The abstract operations, and that the model's do the same. -/
import Derived.Test.YtkjdcbgliekjnaaAxV
namespace Go.Ax
open Go.RowKit (Below)

def szOf (P : Program) (T : TypeId) : Option Nat := (P.info? T).map (·.size)
def zeroOf (P : Program) (T : TypeId) : Option Value := (P.info? T).bind (·.zero)

structure Cx where
  P : Program
  N : Nat
  env : FuncId → List AV → Option AV
  cs : List FuncId

/-- A constant. -/
def ofCell : Value → AV
  | .bool b => .bool b
  | .int k n => .int k n
  | .float k b => if b < 2 ^ k.format.width then .flt k (canon k b) else .undef
  | .complex k a b => if a < 2 ^ k.format.width ∧ b < 2 ^ k.format.width then .cpx k (canon k a) (canon k b) else .undef
  | .slice none 0 0 => .nilsl
  | _ => .undef
def ofConst : Value → AV
  | .agg cs => .agg (cs.toList.map ofCell)
  | v => ofCell v
def evA (fr : Fr) : Operand → AV
  | .tmp t => fr t
  | .const v => ofConst v
  | .func f => .fn f []
  | .global _ => .undef

/-- How a callee sees what it is handed. -/
def fz : Nat → Loc → AV → AV
  | 0, _, x => pl x
  | n + 1, L, x => match x with
    | .loc k g off => if (L k).1 = g then (match (L k).2 with
      | some cells => .ref ((cells.drop off).map (fz n L)) (.loc k g off)
      | none => .undef) else .undef
    | .lsl k g off len e => if (L k).1 = g then (match (L k).2 with
      | some cells => if off + len * e ≤ cells.length then .sli e len (((cells.drop off).take (len * e)).map pl) (.lsl k g off len e) else .undef
      | none => .undef) else .undef
    | .ref cells t => .ref (cells.map (fz n L)) (.ref cells t)
    | .sli e len cells t => .sli e len cells (.sli e len cells t)
    | .agg cells => .agg (cells.map (fz n L))
    | .tup vs => .tup (vs.map (fz n L))
    | .fn f caps => .fn f (caps.map (fz n L))
    | .own .. => .undef
    | x => x

/-- The new slices in a result. -/
def owns : Nat → AV → List (Nat × List AV)
  | 0, _ => []
  | n + 1, x => match x with
    | .own i _ _ cells => [(i, cells)]
    | .agg cells => cells.flatMap (owns n)
    | .tup vs => vs.flatMap (owns n)
    | _ => []
/-- How a caller sees what it is handed back. -/
def imp : Nat → Nat → Loc → AV → AV
  | 0, _, _, x => pl x
  | n + 1, t, L, x => match x with
    | .ref _ t' => t'
    | .sli _ _ _ t' => t'
    | .own i e len _ => .lsl (t * 4 + i) (L (t * 4 + i)).1 0 len e
    | .agg cells => .agg (cells.map (imp n t L))
    | .tup vs => .tup (vs.map (imp n t L))
    | .fn f caps => .fn f (caps.map fun _ => .undef)
    | .loc .. | .lsl .. => .undef
    | x => x
def adoptL (t : Nat) (L : Loc) : List (Nat × List AV) → Loc
  | [] => L
  | (i, cells) :: os => adoptL t (upd L (t * 4 + i) ((L (t * 4 + i)).1 + 1, some cells)) os

section
variable {B N : Nat} {Tg : AV → Value → Prop} {w0 w w' : World} {m m' : Mp} {L L' : Loc} {fr : Fr} {a : Act}

theorem ofCell_sound (v : Value) : VR B Tg w m L (ofCell v) v := by
  unfold ofCell
  split
  · simp [VR]
  · simp [VR]
  · split
    · rename_i h; simp only [VR]; exact ⟨_, rfl, Fl.canon h⟩
    · simp [VR]
  · split
    · rename_i h; simp only [VR]; exact ⟨_, _, rfl, Fl.canon h.1, Fl.canon h.2⟩
    · simp [VR]
  · simp [VR]
  · simp [VR]
theorem ofCells_sound : ∀ (vs : List Value), VRs B Tg w m L (vs.map ofCell) vs
  | [] => by simp [VRs]
  | v :: vs => by simp only [List.map_cons, VRs]; exact ⟨v, vs, rfl, ofCell_sound v, ofCells_sound vs⟩
theorem ofConst_sound (v : Value) : VR B Tg w m L (ofConst v) v := by
  unfold ofConst
  split
  · simp only [VR]; exact ⟨_, rfl, ofCells_sound _⟩
  · exact ofCell_sound v
theorem Rel.ev (h : Rel B Tg N w0 m fr L a w) (x : Operand) : VR B Tg w m L (evA fr x) (a.eval x) := by
  cases x with
  | tmp t => exact h.tmps t
  | const v => exact ofConst_sound v
  | func f => simp only [evA, Act.eval, VR]; exact ⟨#[], rfl, by simp [VRs]⟩
  | global g => simp [evA, VR]
theorem Rel.evs (h : Rel B Tg N w0 m fr L a w) : ∀ (xs : List Operand), VRs B Tg w m L (xs.map (evA fr)) (xs.map a.eval)
  | [] => by simp [VRs]
  | x :: xs => by simp only [List.map_cons, VRs]; exact ⟨_, _, rfl, h.ev x, h.evs xs⟩

theorem VR.pl {x : AV} {v : Value} {B' : Nat} {Tg' : AV → Value → Prop} {w' : World} {m' : Mp} {L' : Loc} (h : VR B Tg w m L x v) : VR B' Tg' w' m' L' (pl x) v := by
  unfold Ax.pl; split
  · rename_i hp; exact h.of_plain hp
  · simp [VR]
theorem VRs.map {f : AV → AV} {B' : Nat} {Tg' : AV → Value → Prop} {m' : Mp} {L' : Loc} (hf : ∀ x v, VR B Tg w m L x v → VR B' Tg' w' m' L' (f x) v) :
    ∀ {xs : List AV} {vs : List Value}, VRs B Tg w m L xs vs → VRs B' Tg' w' m' L' (xs.map f) vs
  | [], _, h => by simpa [VRs] using h
  | x :: xs, _, h => by
    simp only [VRs, List.map_cons] at h ⊢
    obtain ⟨v, vs', rfl, h1, h2⟩ := h
    exact ⟨v, vs', rfl, hf _ _ h1, h2.map hf⟩
theorem VRat.map {f : AV → AV} {B' : Nat} {Tg' : AV → Value → Prop} {m' : Mp} {L' : Loc} (hf : ∀ x v, VR B Tg w m L x v → VR B' Tg' w m' L' (f x) v) :
    ∀ {xs : List AV} {b off : Nat}, VRat B Tg w m L xs b off → VRat B' Tg' w m' L' (xs.map f) b off
  | [], _, _, _ => by simp [VRat]
  | x :: xs, b, off, h => by
    simp only [VRat, List.map_cons] at h ⊢
    obtain ⟨⟨c, hc, h1⟩, h2⟩ := h
    exact ⟨⟨c, hc, hf _ _ h1⟩, h2.map hf⟩

theorem VRpre.at {xs : List AV} {c : Array Value} {t : TypeId} {b : Nat} (hb : w.heap[b]? = some (.cells c t (0, 0))) (h : VRpre B Tg w m L xs c.toList) : VRat B Tg w m L xs b 0 :=
  VRat.of_get fun i x hx => by
    obtain ⟨v, hv, hr⟩ := h.get hx
    refine ⟨v, ?_, hr⟩
    simp only [World.cell?, hb]
    simpa using hv
/-- 'L' holds whatever 'L1' holds of what is there already. -/
def Ext (L1 L : Loc) : Prop := ∀ k c, (L1 k).2 = some c → (L1 k).1 ≤ (L k).1 → L k = L1 k
theorem Ext.refl : Ext L L := fun _ _ _ _ => rfl
/-- What a caller tells its callee of a reference's name. -/
def tgOf (B : Nat) (Tg : AV → Value → Prop) (w : World) (m : Mp) (L : Loc) : AV → Value → Prop := VR B Tg w m L
theorem tagged_of {x : AV} {v : Value} (h : VR B Tg w m L x v) : tagged (tgOf B Tg w m L) x v := by
  unfold tagged; split
  · trivial
  · exact h
theorem fz_sound (h : HP B Tg w m L) (hB : B ≤ w.heap.size) {L1 : Loc} (hx : Ext L1 L) {m' : Mp} {L' : Loc} : ∀ (n : Nat) (x : AV) (v : Value), VR B Tg w m L x v → VR w.heap.size (tgOf B Tg w m L) w m' L' (fz n L1 x) v
  | 0, x, v, hv => hv.pl
  | n + 1, x, v, hv => by
    cases x with
    | loc k g off =>
      simp only [fz]
      split
      · rename_i hg
        split
        · rename_i cells hc
          have htag : tagged (tgOf B Tg w m L) (.loc k g off) v := tagged_of hv
          simp only [VR] at hv ⊢
          have hL := hx k cells hc (by omega)
          rw [← hL] at hg hc
          obtain ⟨h1, c, t, h2, h3, h4⟩ := h k cells hc
          have hlt := h.lt hc
          refine ⟨htag, (m k).1, off, hv.2 hg, hlt, ?_⟩
          have := (h4.at h2).drop off
          rw [Nat.zero_add] at this
          exact this.map (fz_sound h hB hx n)
        · simp [VR]
      · simp [VR]
    | lsl k g off len e =>
      simp only [fz]
      split
      · rename_i hg
        split
        · rename_i cells hc
          split
          · rename_i hle
            have htag : tagged (tgOf B Tg w m L) (.lsl k g off len e) v := tagged_of hv
            simp only [VR] at hv ⊢
            have hL := hx k cells hc (by omega)
            rw [← hL] at hg hc
            obtain ⟨h1, c, t, h2, h3, h4⟩ := h k cells hc
            have hlt := h.lt hc
            obtain ⟨cap, hcv, hl1, hl2⟩ := hv.2 hg
            refine ⟨htag, by simp; omega, fun x hx => ?_, .inr ⟨(m k).1, off, cap, hcv, hlt, ?_⟩⟩
            · obtain ⟨y, _, rfl⟩ := List.mem_map.1 hx; exact plain_pl y
            · have := ((h4.at h2).drop off).take (len * e)
              rw [Nat.zero_add] at this
              exact this.map fun x v h => h.pl
          · simp [VR]
        · simp [VR]
      · simp [VR]
    | ref cells t =>
      have htag := tagged_of hv
      simp only [fz, VR] at hv ⊢
      obtain ⟨ht, b, off, e, hb, hc⟩ := hv
      exact ⟨htag, b, off, e, Nat.lt_of_lt_of_le hb hB, hc.map (fz_sound h hB hx n)⟩
    | sli e len cells t =>
      have htag := tagged_of hv
      simp only [fz, VR] at hv ⊢
      obtain ⟨ht, hl, hp, hv⟩ := hv
      refine ⟨htag, hl, hp, ?_⟩
      rcases hv with hv | ⟨b, off, cap, ev, hb, hc⟩
      · exact .inl hv
      · refine .inr ⟨b, off, cap, ev, Nat.lt_of_lt_of_le hb hB, VRat.of_get fun i x hx => ?_⟩
        obtain ⟨u, hu, hr⟩ := hc.get hx
        exact ⟨u, hu, hr.of_plain (hp x (List.mem_of_getElem? hx))⟩
    | agg cells =>
      simp only [fz, VR] at hv ⊢
      obtain ⟨cs, e, hc⟩ := hv
      exact ⟨cs, e, hc.map (fz_sound h hB hx n)⟩
    | tup vs =>
      simp only [fz, VR] at hv ⊢
      obtain ⟨cs, e, hc⟩ := hv
      exact ⟨cs, e, hc.map (fz_sound h hB hx n)⟩
    | fn f caps =>
      simp only [fz, VR] at hv ⊢
      obtain ⟨cs, e, hc⟩ := hv
      exact ⟨cs, e, hc.map (fz_sound h hB hx n)⟩
    | own k e len cells => simp [fz, VR]
    | undef => simp [fz, VR]
    | skip => simp only [fz, VR] at hv ⊢; exact hv
    | bool b => simp only [fz, VR] at hv ⊢; exact hv
    | int k n => simp only [fz, VR] at hv ⊢; exact hv
    | flt k x => simp only [fz, VR] at hv ⊢; exact hv
    | fbits x => simp only [fz, VR] at hv ⊢; exact hv
    | cpx k x y => simp only [fz, VR] at hv ⊢; exact hv
    | nilsl => simp only [fz, VR] at hv ⊢; exact hv
end

mutual
/-- What a function hands back: a new slice lies in a block that was not there; a reference of the caller's is the one that he named. -/
def RV (B : Nat) (Tg : AV → Value → Prop) (w : World) (mr : Mp) : AV → Value → Prop
  | .own i e len cells, v => (∀ x ∈ cells, plain x = true) ∧ cells.length = len * e ∧ B ≤ (mr i).1 ∧
      (∃ c t, w.heap[(mr i).1]? = some (.cells c t (0, 0)) ∧ c.size = (mr i).2 ∧ VRpre B Tg w mr (fun _ => (0, none)) cells c.toList) ∧
      ∃ cap, v = .slice (some ⟨(mr i).1, 0, none⟩) len cap ∧ len ≤ cap ∧ cap * e ≤ (mr i).2
  | .ref _ t, v => tagged Tg t v
  | .sli _ _ _ t, v => tagged Tg t v
  | .loc .., _ => True
  | .lsl .., _ => True
  | .undef, _ => True
  | .skip, v => v = Go.undef
  | .bool b, v => v = .bool b
  | .int k n, v => v = .int k n
  | .flt k x, v => ∃ b, v = .float k b ∧ Fl k b x
  | .fbits x, v => ∃ b : Nat, v = .int .u64 b ∧ Fl .f64 b x
  | .cpx k x y, v => ∃ a b, v = .complex k a b ∧ Fl k a x ∧ Fl k b y
  | .nilsl, v => ∃ b, v = .slice b 0 0
  | .agg cells, v => ∃ cs : Array Value, v = .agg cs ∧ RVs B Tg w mr cells cs.toList
  | .tup vs, v => ∃ cs : Array Value, v = .tuple cs ∧ RVs B Tg w mr vs cs.toList
  | .fn f caps, v => ∃ cs : Array Value, v = .func (.func f) #[] cs ∧ RVs B Tg w mr caps cs.toList
def RVs (B : Nat) (Tg : AV → Value → Prop) (w : World) (mr : Mp) : List AV → List Value → Prop
  | [], vs => vs = []
  | x :: xs, vs => ∃ v vs', vs = v :: vs' ∧ RV B Tg w mr x v ∧ RVs B Tg w mr xs vs'
end

/-- A call of function 'f', whether it has a body or not. -/
def Invokes (P : Program) (f : FuncId) (args : Array Value) (w : World) (R : Value → World → Prop) : Prop :=
  match (callFunc f args).run P w with
  | .ok (.enter g as) w1 => Calls P g as w1 fun e w' => ∃ v, e = .returned v ∧ R v w'
  | .ok (.value v) w' => R v w'
  | _ => False

def L0 : Loc := fun _ => (0, none)
/-- WHAT A FUNCTION DOES: called with 'args' it hands back 'r', and of what there was nothing has turned. -/
def Does (P : Program) (f : FuncId) (args : List AV) (r : AV) : Prop :=
  ∀ (Tg : AV → Value → Prop) (w : World) (m : Mp) (cargs : Array Value), VRs w.heap.size Tg w m L0 args cargs.toList →
    Invokes P f cargs w fun v w' => Below w.heap.size w w' ∧ ∃ mr, RV w.heap.size Tg w' mr r v ∧
      ∀ i j, i ∈ (owns 4 r).map (·.1) → j ∈ (owns 4 r).map (·.1) → (mr i).1 = (mr j).1 → i = j
def Good (P : Program) (env : FuncId → List AV → Option AV) (f : FuncId) : Prop := ∀ args r, env f args = some r → Does P f args r

section
variable {B B0 N : Nat} {Tg Tg' : AV → Value → Prop} {w0 w w' : World} {m m' mr : Mp} {L L' : Loc} {fr : Fr} {a : Act}

theorem VRpre.plain : ∀ {xs : List AV} {vs : List Value}, (∀ x ∈ xs, plain x = true) → VRpre B Tg w m L xs vs → VRpre B0 Tg' w' m' L' xs vs
  | [], _, _, _ => by simp [VRpre]
  | x :: xs, _, hp, h => by
    simp only [VRpre] at h ⊢
    obtain ⟨v, vs', rfl, h1, h2⟩ := h
    exact ⟨v, vs', rfl, h1.of_plain (hp x (by simp)), h2.plain fun y hy => hp y (by simp [hy])⟩

/-- A block that a result holds. -/
def Block (B0 : Nat) (w : World) (mr : Mp) (p : Nat × List AV) : Prop :=
  (∀ x ∈ p.2, plain x = true) ∧ B0 ≤ (mr p.1).1 ∧ ∃ c t, w.heap[(mr p.1).1]? = some (.cells c t (0, 0)) ∧ c.size = (mr p.1).2 ∧ VRpre 0 (fun _ _ => True) w mr (fun _ => (0, none)) p.2 c.toList

mutual
theorem owns_block : ∀ (n : Nat) (x : AV) (v : Value), RV B0 Tg w mr x v → ∀ p ∈ owns n x, Block B0 w mr p
  | 0, _, _, _, p, hp => by simp [owns] at hp
  | n + 1, x, v, h, p, hp => by
    unfold owns at hp
    split at hp
    · simp at hp; subst hp
      simp only [RV] at h
      obtain ⟨h1, _, h2, ⟨c, t, h3, h4, h5⟩, _⟩ := h
      exact ⟨h1, h2, c, t, h3, h4, h5.plain h1⟩
    · simp only [RV] at h
      obtain ⟨cs, _, hc⟩ := h
      exact owns_blocks n _ _ hc p hp
    · simp only [RV] at h
      obtain ⟨cs, _, hc⟩ := h
      exact owns_blocks n _ _ hc p hp
    · simp at hp
theorem owns_blocks : ∀ (n : Nat) (xs : List AV) (vs : List Value), RVs B0 Tg w mr xs vs → ∀ p ∈ xs.flatMap (owns n), Block B0 w mr p
  | n, [], _, _, p, hp => by simp at hp
  | n, x :: xs, _, h, p, hp => by
    simp only [RVs] at h
    obtain ⟨v, vs', rfl, h1, h2⟩ := h
    simp only [List.flatMap_cons, List.mem_append] at hp
    rcases hp with hp | hp
    · exact owns_block n x v h1 p hp
    · exact owns_blocks n xs vs' h2 p hp
end

theorem adoptL_cons (t : Nat) (L : Loc) (i : Nat) (cells : List AV) (os : List (Nat × List AV)) :
    adoptL t L ((i, cells) :: os) = adoptL t (upd L (t * 4 + i) ((L (t * 4 + i)).1 + 1, some cells)) os := rfl
theorem adoptL_other (t k : Nat) : ∀ (os : List (Nat × List AV)) (L : Loc), (∀ p ∈ os, t * 4 + p.1 ≠ k) → adoptL t L os k = L k
  | [], _, _ => rfl
  | (i, cells) :: os, L, h => by
    rw [adoptL_cons, adoptL_other t k os _ fun p hp => h p (by simp [hp])]
    exact upd_ne _ _ (fun e => h (i, cells) (by simp) e.symm)

/-- Taking over the blocks of a result. -/
theorem Rel.adopt (t : Nat) (hB : B ≤ B0) : ∀ (os : List (Nat × List AV)) {L : Loc} {m : Mp}, Rel B Tg N w0 m fr L a w → (os.map (·.1)).Nodup →
    (∀ p ∈ os, Block B0 w mr p) → (∀ i j, i ∈ os.map (·.1) → j ∈ os.map (·.1) → (mr i).1 = (mr j).1 → i = j) →
    (∀ k c, (L k).2 = some c → (∀ p ∈ os, (m k).1 ≠ (mr p.1).1)) →
    ∃ m', Rel B Tg N w0 m' fr (adoptL t L os) a w ∧ Keeps B w w m m' L (adoptL t L os) ∧ ∀ p ∈ os, m' (t * 4 + p.1) = mr p.1
  | [], L, m, h, _, _, _, _ => ⟨m, h, .refl, by simp⟩
  | (i, cells) :: os, L, m, h, hnd, hbl, hinj, hfree => by
    obtain ⟨hp, hge, c, ty, hb, hs, hv⟩ := hbl (i, cells) (by simp)
    simp only [List.map_cons, List.nodup_cons] at hnd
    have e : mr i = ((mr i).1, c.size) := by rw [hs]
    have h1 : Rel B Tg N w0 (upd m (t * 4 + i) ((mr i).1, c.size)) fr (upd L (t * 4 + i) ((L (t * 4 + i)).1 + 1, some cells)) a w :=
      h.new (t * 4 + i) (mr i).1 cells c ty hb (Nat.le_trans hB hge) (fun k' c' hc' _ => hfree k' c' hc' (i, cells) (by simp)) (hv.plain hp)
    have hk : Keeps B w w m (upd m (t * 4 + i) ((mr i).1, c.size)) L (upd L (t * 4 + i) ((L (t * 4 + i)).1 + 1, some cells)) := .bump _ _ _
    obtain ⟨m', h2, h3, h4⟩ := Rel.adopt t hB os h1 hnd.2 (fun p hp => hbl p (by simp [hp])) (fun x y hx hy => hinj x y (by simp at hx ⊢; exact .inr hx) (by simp at hy ⊢; exact .inr hy)) (by
      intro k c' hc' p hp
      by_cases hk : k = t * 4 + i
      · rw [hk, upd_same]
        intro e'
        have : i = p.1 := hinj i p.1 (by simp) (by simp; exact .inr ⟨p.2, hp⟩) e'
        exact hnd.1 (this ▸ List.mem_map_of_mem hp)
      · rw [upd_ne _ _ hk] at hc' ⊢
        exact hfree k c' hc' p (by simp [hp]))
    refine ⟨m', h2, hk.trans h3, fun p hp => ?_⟩
    simp only [List.mem_cons] at hp
    rcases hp with rfl | hp
    · have hother := adoptL_other t (t * 4 + i) os (upd L (t * 4 + i) ((L (t * 4 + i)).1 + 1, some cells)) (fun p hp e' => hnd.1 (by
        have : i = p.1 := by omega
        exact this ▸ List.mem_map_of_mem hp))
      have := h3.place (t * 4 + i) (by rw [hother])
      rw [this, upd_same, ← e]
    · exact h4 p hp
end
end Go.Ax
