/- Abstract values: floats with one not-a-number, references that carry what they refer to; and how they stand for the model's values. -/
import Derived.Test.YtkjdcbgliekjnaaAxF
namespace Go.Ax
open Go.RowKit (Below)

inductive AV where
  | undef
  | skip
  | bool (b : Bool)
  | int (k : IntKind) (n : Int)
  | flt (k : FloatKind) (x : Nat)
  | fbits (x : Nat)
  | cpx (k : FloatKind) (x y : Nat)
  | nilsl
  | loc (k g off : Nat)
  | lsl (k g off len e : Nat)
  | ref (cells : List AV) (t : AV)
  | sli (e len : Nat) (cells : List AV) (t : AV)
  | own (k e len : Nat) (cells : List AV)
  | agg (cells : List AV)
  | tup (vs : List AV)
  | fn (f : FuncId) (caps : List AV)
  deriving Inhabited

abbrev Loc := Nat → Nat × Option (List AV)
abbrev Mp := Nat → Nat × Nat
abbrev Fr := Nat → AV

def upd {α : Type} (f : Nat → α) (k : Nat) (v : α) : Nat → α := fun i => if i = k then v else f i
@[simp] theorem upd_same {α : Type} (f : Nat → α) (k : Nat) (v : α) : upd f k v k = v := by simp [upd]
theorem upd_ne {α : Type} (f : Nat → α) {k i : Nat} (v : α) (h : i ≠ k) : upd f k v i = f i := by simp [upd, h]
theorem upd_self {α : Type} (f : Nat → α) (k : Nat) : upd f k (f k) = f := by
  funext i; unfold upd; split
  · rename_i h; rw [h]
  · rfl

/-- A value without references. -/
def plain : AV → Bool
  | .undef | .bool _ | .int _ _ | .flt _ _ | .cpx _ _ _ => true
  | _ => false
def pl (x : AV) : AV := if plain x then x else .undef
theorem plain_pl (x : AV) : plain (pl x) = true := by
  unfold pl; split
  · assumption
  · rfl

def tagged (Tg : AV → Value → Prop) : AV → Value → Prop
  | .undef, _ => True
  | t, v => Tg t v

mutual
/-- 'v' is, in the world 'w', what 'x' says. 'B': what lies below is not the function's own; 'Tg': what its caller knows of a reference by its name; 'm': the blocks of its own. -/
def VR (B : Nat) (Tg : AV → Value → Prop) (w : World) (m : Mp) (L : Loc) : AV → Value → Prop
  | .undef, _ => True
  | .skip, v => v = Go.undef
  | .bool b, v => v = .bool b
  | .int k n, v => v = .int k n
  | .flt k x, v => ∃ b, v = .float k b ∧ Fl k b x
  | .fbits x, v => ∃ b : Nat, v = .int .u64 b ∧ Fl .f64 b x
  | .cpx k x y, v => ∃ a b, v = .complex k a b ∧ Fl k a x ∧ Fl k b y
  | .nilsl, v => ∃ b, v = .slice b 0 0
  | .loc k g off, v => g ≤ (L k).1 ∧ ((L k).1 = g → v = .pointer (some ⟨(m k).1, off, none⟩))
  | .lsl k g off len e, v => g ≤ (L k).1 ∧ ((L k).1 = g → ∃ cap, v = .slice (some ⟨(m k).1, off, none⟩) len cap ∧ len ≤ cap ∧ off + cap * e ≤ (m k).2)
  | .ref cells t, v => tagged Tg t v ∧ ∃ b off, v = .pointer (some ⟨b, off, none⟩) ∧ b < B ∧ VRat B Tg w m L cells b off
  | .sli e len cells t, v => tagged Tg t v ∧ cells.length = len * e ∧ (∀ x ∈ cells, plain x = true) ∧ ((v = .slice none 0 0 ∧ len = 0) ∨ ∃ b off cap, v = .slice (some ⟨b, off, none⟩) len cap ∧ b < B ∧ VRat B Tg w m L cells b off)
  | .own _ _ _ _, _ => False
  | .agg cells, v => ∃ cs : Array Value, v = .agg cs ∧ VRs B Tg w m L cells cs.toList
  | .tup vs, v => ∃ cs : Array Value, v = .tuple cs ∧ VRs B Tg w m L vs cs.toList
  | .fn f caps, v => ∃ cs : Array Value, v = .func (.func f) #[] cs ∧ VRs B Tg w m L caps cs.toList
def VRs (B : Nat) (Tg : AV → Value → Prop) (w : World) (m : Mp) (L : Loc) : List AV → List Value → Prop
  | [], vs => vs = []
  | x :: xs, vs => ∃ v vs', vs = v :: vs' ∧ VR B Tg w m L x v ∧ VRs B Tg w m L xs vs'
def VRat (B : Nat) (Tg : AV → Value → Prop) (w : World) (m : Mp) (L : Loc) : List AV → Nat → Nat → Prop
  | [], _, _ => True
  | x :: xs, b, off => (∃ c, w.cell? ⟨b, off, none⟩ = some c ∧ VR B Tg w m L x c) ∧ VRat B Tg w m L xs b (off + 1)
end

section
variable {B : Nat} {Tg : AV → Value → Prop} {w w' : World} {m m' : Mp} {L L' : Loc}

/-- What is asked of a step: what is foreign stays as it is; blocks of its own keep their place while their mark stays. -/
structure Keeps (B : Nat) (w w' : World) (m m' : Mp) (L L' : Loc) : Prop where
  cell : ∀ b off, b < B → w'.cell? ⟨b, off, none⟩ = w.cell? ⟨b, off, none⟩
  gen : ∀ k, (L k).1 ≤ (L' k).1
  place : ∀ k, (L' k).1 = (L k).1 → m' k = m k

theorem Keeps.refl : Keeps B w w m m L L := ⟨fun _ _ _ => rfl, fun _ => Nat.le_refl _, fun _ _ => rfl⟩
theorem Keeps.trans {w'' : World} {m'' : Mp} {L'' : Loc} (h : Keeps B w w' m m' L L') (h' : Keeps B w' w'' m' m'' L' L'') : Keeps B w w'' m m'' L L'' :=
  ⟨fun b off hb => (h'.cell b off hb).trans (h.cell b off hb), fun k => Nat.le_trans (h.gen k) (h'.gen k), fun k e => by
    have h1 := h.gen k; have h2 := h'.gen k
    rw [h'.place k (by omega), h.place k (by omega)]⟩

mutual
theorem VR.keep (h : Keeps B w w' m m' L L') : ∀ {x : AV} {v : Value}, VR B Tg w m L x v → VR B Tg w' m' L' x v
  | .undef, _, _ => by simp [VR]
  | .skip, _, hv => by simpa [VR] using hv
  | .bool _, _, hv => by simpa [VR] using hv
  | .int _ _, _, hv => by simpa [VR] using hv
  | .flt _ _, _, hv => by simpa [VR] using hv
  | .fbits _, _, hv => by simpa [VR] using hv
  | .cpx _ _ _, _, hv => by simpa [VR] using hv
  | .nilsl, _, hv => by simpa [VR] using hv
  | .loc k g off, _, hv => by
    simp only [VR] at hv ⊢
    have h1 := h.gen k
    exact ⟨by omega, fun e => by have e' : (L k).1 = g := by omega
                                 rw [h.place k (by omega)]; exact hv.2 e'⟩
  | .lsl k g off len e, _, hv => by
    simp only [VR] at hv ⊢
    have h1 := h.gen k
    exact ⟨by omega, fun e => by have e' : (L k).1 = g := by omega
                                 rw [h.place k (by omega)]; exact hv.2 e'⟩
  | .ref cells t, _, hv => by
    simp only [VR] at hv ⊢
    obtain ⟨ht, b, off, e, hb, hc⟩ := hv
    exact ⟨ht, b, off, e, hb, VRat.keep h hb hc⟩
  | .sli e len cells t, _, hv => by
    simp only [VR] at hv ⊢
    obtain ⟨ht, hl, hp, hv | ⟨b, off, cap, e, hb, hc⟩⟩ := hv
    · exact ⟨ht, hl, hp, .inl hv⟩
    · exact ⟨ht, hl, hp, .inr ⟨b, off, cap, e, hb, VRat.keep h hb hc⟩⟩
  | .own _ _ _ _, _, hv => by simp [VR] at hv
  | .agg _, _, hv => by
    simp only [VR] at hv ⊢
    obtain ⟨cs, e, hc⟩ := hv
    exact ⟨cs, e, VRs.keep h hc⟩
  | .tup _, _, hv => by
    simp only [VR] at hv ⊢
    obtain ⟨cs, e, hc⟩ := hv
    exact ⟨cs, e, VRs.keep h hc⟩
  | .fn _ _, _, hv => by
    simp only [VR] at hv ⊢
    obtain ⟨cs, e, hc⟩ := hv
    exact ⟨cs, e, VRs.keep h hc⟩
theorem VRs.keep (h : Keeps B w w' m m' L L') : ∀ {xs : List AV} {vs : List Value}, VRs B Tg w m L xs vs → VRs B Tg w' m' L' xs vs
  | [], _, hv => by simpa [VRs] using hv
  | x :: xs, _, hv => by
    simp only [VRs] at hv ⊢
    obtain ⟨v, vs', e, h1, h2⟩ := hv
    exact ⟨v, vs', e, VR.keep h h1, VRs.keep h h2⟩
theorem VRat.keep (h : Keeps B w w' m m' L L') : ∀ {xs : List AV} {b off : Nat}, b < B → VRat B Tg w m L xs b off → VRat B Tg w' m' L' xs b off
  | [], _, _, _, _ => by simp [VRat]
  | x :: xs, b, off, hb, hv => by
    simp only [VRat] at hv ⊢
    obtain ⟨⟨c, hc, h1⟩, h2⟩ := hv
    exact ⟨⟨c, by rw [h.cell b off hb]; exact hc, VR.keep h h1⟩, VRat.keep h hb h2⟩
end

/-- The first cells of a block of one's own. -/
def VRpre (B : Nat) (Tg : AV → Value → Prop) (w : World) (m : Mp) (L : Loc) : List AV → List Value → Prop
  | [], _ => True
  | x :: xs, vs => ∃ v vs', vs = v :: vs' ∧ VR B Tg w m L x v ∧ VRpre B Tg w m L xs vs'
theorem VRpre.keep (h : Keeps B w w' m m' L L') : ∀ {xs : List AV} {vs : List Value}, VRpre B Tg w m L xs vs → VRpre B Tg w' m' L' xs vs
  | [], _, _ => by simp [VRpre]
  | x :: xs, _, hv => by
    simp only [VRpre] at hv ⊢
    obtain ⟨v, vs', e, h1, h2⟩ := hv
    exact ⟨v, vs', e, VR.keep h h1, VRpre.keep h h2⟩
theorem VRs.pre : ∀ {xs : List AV} {vs : List Value}, VRs B Tg w m L xs vs → VRpre B Tg w m L xs vs
  | [], _, _ => by simp [VRpre]
  | x :: xs, _, hv => by
    simp only [VRs, VRpre] at hv ⊢
    obtain ⟨v, vs', e, h1, h2⟩ := hv
    exact ⟨v, vs', e, h1, VRs.pre h2⟩
theorem VRs.length : ∀ {xs : List AV} {vs : List Value}, VRs B Tg w m L xs vs → vs.length = xs.length
  | [], _, hv => by simp [VRs] at hv; simp [hv]
  | x :: xs, _, hv => by
    simp only [VRs] at hv
    obtain ⟨v, vs', rfl, h1, h2⟩ := hv
    simp [VRs.length h2]
theorem VRs.get : ∀ {xs : List AV} {vs : List Value}, VRs B Tg w m L xs vs → ∀ {i : Nat} {x : AV}, xs[i]? = some x → ∃ v, vs[i]? = some v ∧ VR B Tg w m L x v
  | [], _, _, i, _, hx => by simp at hx
  | x :: xs, _, hv, i, y, hx => by
    simp only [VRs] at hv
    obtain ⟨v, vs', rfl, h1, h2⟩ := hv
    cases i with
    | zero => simp at hx; subst hx; exact ⟨v, by simp, h1⟩
    | succ i => simp at hx; simpa using VRs.get h2 hx
theorem VRpre.get : ∀ {xs : List AV} {vs : List Value}, VRpre B Tg w m L xs vs → ∀ {i : Nat} {x : AV}, xs[i]? = some x → ∃ v, vs[i]? = some v ∧ VR B Tg w m L x v
  | [], _, _, i, _, hx => by simp at hx
  | x :: xs, _, hv, i, y, hx => by
    simp only [VRpre] at hv
    obtain ⟨v, vs', rfl, h1, h2⟩ := hv
    cases i with
    | zero => simp at hx; subst hx; exact ⟨v, by simp, h1⟩
    | succ i => simp at hx; simpa using VRpre.get h2 hx
theorem VRpre.length_le : ∀ {xs : List AV} {vs : List Value}, VRpre B Tg w m L xs vs → xs.length ≤ vs.length
  | [], _, _ => by simp
  | x :: xs, _, hv => by
    simp only [VRpre] at hv
    obtain ⟨v, vs', rfl, h1, h2⟩ := hv
    simpa using VRpre.length_le h2
theorem VRat.get : ∀ {xs : List AV} {b off : Nat}, VRat B Tg w m L xs b off → ∀ {i : Nat} {x : AV}, xs[i]? = some x → ∃ v, w.cell? ⟨b, off + i, none⟩ = some v ∧ VR B Tg w m L x v
  | [], _, _, _, i, _, hx => by simp at hx
  | x :: xs, b, off, hv, i, y, hx => by
    simp only [VRat] at hv
    obtain ⟨⟨c, hc, h1⟩, h2⟩ := hv
    cases i with
    | zero => simp at hx; subst hx; exact ⟨c, by simpa using hc, h1⟩
    | succ i =>
      simp at hx
      obtain ⟨v, hv, hr⟩ := VRat.get h2 hx
      exact ⟨v, by rw [show off + (i + 1) = off + 1 + i by omega]; exact hv, hr⟩
theorem VRat.drop : ∀ {xs : List AV} {b off : Nat} (n : Nat), VRat B Tg w m L xs b off → VRat B Tg w m L (xs.drop n) b (off + n)
  | xs, b, off, 0, h => by simpa using h
  | [], b, off, n + 1, h => by simp [VRat]
  | x :: xs, b, off, n + 1, h => by
    simp only [VRat] at h
    have := VRat.drop n h.2
    simpa [Nat.add_assoc, Nat.add_comm 1 n] using this
theorem VRat.take : ∀ {xs : List AV} {b off : Nat} (n : Nat), VRat B Tg w m L xs b off → VRat B Tg w m L (xs.take n) b off
  | xs, b, off, 0, h => by simp [VRat]
  | [], b, off, n + 1, h => by simp [VRat]
  | x :: xs, b, off, n + 1, h => by
    simp only [VRat, List.take_succ_cons] at h ⊢
    exact ⟨h.1, VRat.take n h.2⟩
theorem VRs.append : ∀ {xs ys : List AV} {vs us : List Value}, VRs B Tg w m L xs vs → VRs B Tg w m L ys us → VRs B Tg w m L (xs ++ ys) (vs ++ us)
  | [], _, _, _, h, h' => by simp [VRs] at h; subst h; simpa using h'
  | x :: xs, _, _, _, h, h' => by
    simp only [VRs] at h
    obtain ⟨v, vs', rfl, h1, h2⟩ := h
    simp only [List.cons_append, VRs]
    exact ⟨v, _, rfl, h1, VRs.append h2 h'⟩
theorem VRs.of_get : ∀ {xs : List AV} {vs : List Value}, vs.length = xs.length → (∀ (i : Nat) (x : AV), xs[i]? = some x → ∃ v, vs[i]? = some v ∧ VR B Tg w m L x v) → VRs B Tg w m L xs vs
  | [], vs, hl, _ => by simp at hl; simp [VRs, hl]
  | x :: xs, [], hl, _ => by simp at hl
  | x :: xs, v :: vs, hl, h => by
    simp only [VRs]
    obtain ⟨u, hu, hr⟩ := h 0 x (by simp)
    simp at hu; subst hu
    exact ⟨v, vs, rfl, hr, VRs.of_get (by simpa using hl) fun i y hy => by simpa using h (i + 1) y (by simpa using hy)⟩
theorem VRpre.of_get : ∀ {xs : List AV} {vs : List Value}, (∀ (i : Nat) (x : AV), xs[i]? = some x → ∃ v, vs[i]? = some v ∧ VR B Tg w m L x v) → VRpre B Tg w m L xs vs
  | [], vs, _ => by simp [VRpre]
  | x :: xs, [], h => by obtain ⟨u, hu, _⟩ := h 0 x (by simp); simp at hu
  | x :: xs, v :: vs, h => by
    simp only [VRpre]
    obtain ⟨u, hu, hr⟩ := h 0 x (by simp)
    simp at hu; subst hu
    exact ⟨v, vs, rfl, hr, VRpre.of_get fun i y hy => by simpa using h (i + 1) y (by simpa using hy)⟩
theorem VRat.of_get : ∀ {xs : List AV} {b off : Nat}, (∀ (i : Nat) (x : AV), xs[i]? = some x → ∃ v, w.cell? ⟨b, off + i, none⟩ = some v ∧ VR B Tg w m L x v) → VRat B Tg w m L xs b off
  | [], _, _, _ => by simp [VRat]
  | x :: xs, b, off, h => by
    simp only [VRat]
    refine ⟨by simpa using h 0 x (by simp), VRat.of_get fun i y hy => ?_⟩
    have := h (i + 1) y (by simpa using hy)
    rwa [show off + (i + 1) = off + 1 + i by omega] at this
/-- A plain value is the same thing everywhere. -/
theorem VR.of_plain {B' : Nat} {Tg' : AV → Value → Prop} {x : AV} {v : Value} (hp : plain x = true) (h : VR B Tg w m L x v) : VR B' Tg' w' m' L' x v := by
  cases x <;> simp [plain] at hp <;> (simp only [VR] at h ⊢; try exact h)
end

/-- The blocks of a function's own. -/
def HP (B : Nat) (Tg : AV → Value → Prop) (w : World) (m : Mp) (L : Loc) : Prop :=
  ∀ k cells, (L k).2 = some cells → B ≤ (m k).1 ∧ ∃ c t, w.heap[(m k).1]? = some (.cells c t (0, 0)) ∧ c.size = (m k).2 ∧ VRpre B Tg w m L cells c.toList

/-- A state of a run of a function: what the frame 'a' and the world 'w' are, by 'fr' and 'L'. -/
structure Rel (B : Nat) (Tg : AV → Value → Prop) (N : Nat) (w0 : World) (m : Mp) (fr : Fr) (L : Loc) (a : Act) (w : World) : Prop where
  below : Below B w0 w
  base : B ≤ w.heap.size
  heap : HP B Tg w m L
  inj : ∀ k k' c c', (L k).2 = some c → (L k').2 = some c' → (m k).1 = (m k').1 → k = k'
  size : a.tmps.size = N
  defers : a.defers = []
  tmps : ∀ t, VR B Tg w m L (fr t) (a.tmps.getD t Go.undef)

section
variable {B N : Nat} {Tg : AV → Value → Prop} {w0 w w' : World} {m m' : Mp} {L L' : Loc} {fr : Fr} {a : Act}

def putA (N : Nat) (fr : Fr) (dst : Option Tmp) (v : AV) : Fr :=
  match dst with
  | some d => if d < N then upd fr d v else upd fr d .undef
  | none => fr

theorem Rel.put (h : Rel B Tg N w0 m fr L a w) (dst : Option Tmp) {x : AV} {v : Value} (hv : VR B Tg w m L x v) : Rel B Tg N w0 m (putA N fr dst x) L (a.put dst v) w := by
  cases dst with
  | none => exact h
  | some d =>
    refine ⟨h.below, h.base, h.heap, h.inj, by simp [Act.put, h.size], by simp [Act.put, h.defers], fun t => ?_⟩
    simp only [putA, Act.put]
    have ht := h.tmps t
    have hs : a.tmps.size = N := h.size
    by_cases hd : d < N
    · rw [if_pos hd]
      by_cases e : t = d
      · subst e
        have ht' : t < a.tmps.size := by rw [hs]; exact hd
        rw [upd_same]
        simp only [Array.getD_eq_getD_getElem?, Array.getElem?_setIfInBounds, if_true, ht', Option.getD_some]
        exact hv
      · rw [upd_ne _ _ e]
        simp only [Array.getD_eq_getD_getElem?, Array.getElem?_setIfInBounds] at ht ⊢
        rw [if_neg (fun h => e h.symm)]; exact ht
    · rw [if_neg hd]
      by_cases e : t = d
      · subst e; rw [upd_same]; simp [VR]
      · rw [upd_ne _ _ e]
        simp only [Array.getD_eq_getD_getElem?, Array.getElem?_setIfInBounds] at ht ⊢
        rw [if_neg (fun h => e h.symm)]; exact ht

theorem Keeps.of_below (h : Below B w w') : Keeps B w w' m m L L :=
  ⟨fun _ _ hb => h.cell hb, fun _ => Nat.le_refl _, fun _ _ => rfl⟩

/-- The world has moved on, and of what there was nothing has turned. -/
theorem Rel.world (h : Rel B Tg N w0 m fr L a w) (hb : Below w.heap.size w w') : Rel B Tg N w0 m fr L a w' := by
  have hk : Keeps B w w' m m L L := .of_below (hb.mono h.base)
  refine ⟨h.below.trans (hb.mono h.base), Nat.le_trans h.base hb.size, fun k cells hc => ?_, h.inj, h.size, h.defers, fun t => (h.tmps t).keep hk⟩
  obtain ⟨h1, c, t, h2, h3, h4⟩ := h.heap k cells hc
  refine ⟨h1, c, t, ?_, h3, h4.keep hk⟩
  have hlt : (m k).1 < w.heap.size := by
    rcases Nat.lt_or_ge (m k).1 w.heap.size with h' | h'
    · exact h'
    · simp [Array.getElem?_eq_none h'] at h2
  rw [hb.block _ hlt]; exact h2

/-- A block of the function's own more: its key was 'k'. -/
theorem Rel.new (h : Rel B Tg N w0 m fr L a w) (k b : Nat) (cells : List AV) (c : Array Value) (t : TypeId) (hbl : w.heap[b]? = some (.cells c t (0, 0))) (hge : B ≤ b)
    (hfree : ∀ k' c', (L k').2 = some c' → k' ≠ k → (m k').1 ≠ b)
    (hc : VRpre B Tg w (upd m k (b, c.size)) (upd L k ((L k).1 + 1, some cells)) cells c.toList) :
    Rel B Tg N w0 (upd m k (b, c.size)) fr (upd L k ((L k).1 + 1, some cells)) a w := by
  have hk : Keeps B w w m (upd m k (b, c.size)) L (upd L k ((L k).1 + 1, some cells)) := by
    refine ⟨fun _ _ _ => rfl, fun i => ?_, fun i e => ?_⟩
    · by_cases hi : i = k
      · subst hi; simp
      · simp [upd_ne _ _ hi]
    · by_cases hi : i = k
      · subst hi; simp at e
      · simp [upd_ne _ _ hi]
  refine ⟨h.below, h.base, fun i cs hcs => ?_, fun i j c1 c2 hi hj e => ?_, h.size, h.defers, fun t => (h.tmps t).keep hk⟩
  · by_cases hi : i = k
    · subst hi
      simp at hcs ⊢; subst hcs
      exact ⟨hge, c, ⟨t, hbl⟩, rfl, hc⟩
    · rw [upd_ne _ _ hi] at hcs ⊢
      obtain ⟨h1, c1, t1, h2, h3, h4⟩ := h.heap i cs hcs
      exact ⟨h1, c1, t1, h2, h3, h4.keep hk⟩
  · by_cases hik : i = k
    · by_cases hjk : j = k
      · rw [hik, hjk]
      · rw [hik] at hi e
        rw [upd_ne _ _ hjk] at hj e
        simp at e
        exact absurd e.symm (hfree j _ hj hjk)
    · by_cases hjk : j = k
      · rw [hjk] at hj e
        rw [upd_ne _ _ hik] at hi e
        simp at e
        exact absurd e (hfree i _ hi hik)
      · rw [upd_ne _ _ hik] at hi e
        rw [upd_ne _ _ hjk] at hj e
        exact h.inj i j _ _ hi hj e

theorem Keeps.bump (k : Nat) (v : Nat × Nat) (o : Option (List AV)) : Keeps B w w m (upd m k v) L (upd L k ((L k).1 + 1, o)) := by
  refine ⟨fun _ _ _ => rfl, fun i => ?_, fun i e => ?_⟩
  · by_cases hi : i = k
    · subst hi; simp
    · simp [upd_ne _ _ hi]
  · by_cases hi : i = k
    · subst hi; simp at e
    · simp [upd_ne _ _ hi]

theorem HP.lt (h : HP B Tg w m L) {k : Nat} {cells : List AV} (hc : (L k).2 = some cells) : (m k).1 < w.heap.size := by
  obtain ⟨_, c, t, h2, _⟩ := h k cells hc
  rcases Nat.lt_or_ge (m k).1 w.heap.size with h' | h'
  · exact h'
  · simp [Array.getElem?_eq_none h'] at h2

/-- A new block. -/
theorem Rel.alloc (h : Rel B Tg N w0 m fr L a w) (k : Nat) {cells : List AV} {c : Array Value} (t : TypeId) (hc : VRs B Tg w m L cells c.toList) :
    Rel B Tg N w0 (upd m k (w.heap.size, c.size)) fr (upd L k ((L k).1 + 1, some cells)) a (w.alloc (.cells c t)) := by
  have hb : Below w.heap.size w (w.alloc (.cells c t)) := (Below.refl _ _).alloc (Nat.le_refl _) _
  have hk : Keeps B w (w.alloc (.cells c t)) m m L L := .of_below (hb.mono h.base)
  refine (h.world hb).new k w.heap.size cells c t (by show (w.heap.push _)[w.heap.size]? = _; simp) h.base (fun k' c' hc' _ => ?_) ((hc.keep hk).keep (.bump k _ _)).pre
  have := h.heap.lt hc'; omega
end
#print axioms Rel.alloc
end Go.Ax
