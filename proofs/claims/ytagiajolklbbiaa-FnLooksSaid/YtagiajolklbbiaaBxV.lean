/- Abstract values: floats with one not-a-number, slices of rows, blocks of one's own by key; and how they stand for the model's values. -/
import Derived.Test.YtagiajolklbbiaaBxR
namespace Go.Bx
open Go.Ax
open Go.RowKit (Below)

/-- The kinds of elements of slices. -/
inductive RK where
  | f32
  | int (k : IntKind)
  | f4
  | nb
  | c64
  deriving DecidableEq
@[reducible] def RK.T : RK → Type
  | .f32 => Nat
  | .int _ => Int
  | .f4 => Nat × Nat × Nat × Nat
  | .nb => Int × Nat
  | .c64 => Nat × Nat
def RK.w : RK → Nat
  | .f32 => 1
  | .int _ => 1
  | .f4 => 4
  | .nb => 2
  | .c64 => 1
def RK.z : (r : RK) → r.T
  | .f32 => (0 : Nat)
  | .int _ => (0 : Int)
  | .f4 => ((0, 0, 0, 0) : Nat × Nat × Nat × Nat)
  | .nb => ((0, 0) : Int × Nat)
  | .c64 => ((0, 0) : Nat × Nat)
@[simp] theorem RK.z_f32 : RK.z .f32 = (0 : Nat) := rfl
@[simp] theorem RK.z_int (k : IntKind) : RK.z (.int k) = (0 : Int) := rfl
@[simp] theorem RK.z_f4 : RK.z .f4 = ((0, 0, 0, 0) : Nat × Nat × Nat × Nat) := rfl
@[simp] theorem RK.z_nb : RK.z .nb = ((0, 0) : Int × Nat) := rfl
@[simp] theorem RK.z_c64 : RK.z .c64 = ((0, 0) : Nat × Nat) := rfl
theorem RK.w_pos (r : RK) : 0 < r.w := by cases r <;> simp [RK.w]

inductive AV where
  | undef
  | skip
  | bool (b : Bool)
  | int (k : IntKind) (n : Int)
  | flt (k : FloatKind) (x : Nat)
  | fbits (x : Nat)
  | cpx (k : FloatKind) (x y : Nat)
  | nil
  | emp (r : RK)
  | loc (k off : Nat)
  | osl (k : Nat)
  | eloc (k i j : Nat)
  | ref (cells : List AV) (t : AV)
  | sli (r : RK) (xs : List r.T) (t : AV)
  | eref (r : RK) (xs : List r.T) (i j : Nat)
  | own (i : Nat) (r : RK) (xs : List r.T)
  | agg (cells : List AV)
  | tup (vs : List AV)
  | fn (f : FuncId) (caps : List AV)
  deriving Inhabited

def RK.enc : (r : RK) → r.T → List AV
  | .f32, x => [.flt .f32 x]
  | .int k, x => [.int k x]
  | .f4, x => [.flt .f32 x.1, .flt .f32 x.2.1, .flt .f32 x.2.2.1, .flt .f32 x.2.2.2]
  | .nb, x => [.int .i64 x.1, .flt .f32 x.2]
  | .c64, x => [.cpx .f32 x.1 x.2]
/-- The row of some cells. -/
def RK.dec : (r : RK) → List AV → Option r.T
  | .f32, [.flt .f32 x] => some x
  | .int k, [.int k' x] => if k = k' then some x else none
  | .f4, [.flt .f32 a, .flt .f32 b, .flt .f32 c, .flt .f32 d] => some (a, b, c, d)
  | .nb, [.int .i64 n, .flt .f32 x] => some (n, x)
  | .c64, [.cpx .f32 x y] => some (x, y)
  | _, _ => none
theorem RK.enc_len (r : RK) (x : r.T) : (r.enc x).length = r.w := by cases r <;> rfl
theorem RK.dec_enc (r : RK) (l : List AV) (x : r.T) (h : r.dec l = some x) : r.enc x = l := by
  unfold RK.dec at h
  split at h
  · cases h; rfl
  · split at h
    · rename_i hk; cases h; subst hk; rfl
    · cases h
  · cases h; rfl
  · cases h; rfl
  · cases h; rfl
  · cases h
def rowsA (r : RK) (xs : List r.T) : List AV := xs.flatMap r.enc
theorem rowsA_len (r : RK) : ∀ xs : List r.T, (rowsA r xs).length = xs.length * r.w
  | [] => by simp [rowsA]
  | x :: xs => by
    have := rowsA_len r xs
    simp only [rowsA] at this ⊢
    rw [List.flatMap_cons, List.length_append, r.enc_len, this, List.length_cons, Nat.succ_mul, Nat.add_comm]
theorem rowsA_get (r : RK) : ∀ (xs : List r.T) (i j : Nat) (hi : i < xs.length), j < r.w → (rowsA r xs)[i * r.w + j]? = (r.enc xs[i])[j]?
  | [], i, j, hi, _ => by simp at hi
  | x :: xs, 0, j, _, hj => by
    simp only [rowsA, List.flatMap_cons, Nat.zero_mul, Nat.zero_add, List.getElem_cons_zero]
    rw [List.getElem?_append_left (by rw [r.enc_len]; exact hj)]
  | x :: xs, i + 1, j, hi, hj => by
    have := rowsA_get r xs i j (by simpa using hi) hj
    simp only [rowsA] at this
    simp only [rowsA, List.flatMap_cons, List.getElem_cons_succ]
    rw [List.getElem?_append_right (by rw [r.enc_len, Nat.succ_mul]; omega), r.enc_len, Nat.succ_mul, show i * r.w + r.w + j - r.w = i * r.w + j by omega]
    exact this
theorem rowsA_append (r : RK) (xs ys : List r.T) : rowsA r (xs ++ ys) = rowsA r xs ++ rowsA r ys := by simp [rowsA]
theorem rowsA_set (r : RK) : ∀ (xs : List r.T) (i j : Nat) (v : AV) (x : r.T) (hi : i < xs.length), j < r.w → r.enc x = (r.enc xs[i]).set j v → (rowsA r xs).set (i * r.w + j) v = rowsA r (xs.set i x)
  | [], i, j, _, _, hi, _, _ => by simp at hi
  | y :: xs, 0, j, v, x, _, hj, h => by
    simp only [List.getElem_cons_zero] at h
    simp only [rowsA, List.flatMap_cons, Nat.zero_mul, Nat.zero_add, List.set_cons_zero]
    rw [List.set_append_left _ _ (by rw [r.enc_len]; exact hj), h]
  | y :: xs, i + 1, j, v, x, hi, hj, h => by
    have := rowsA_set r xs i j v x (by simpa using hi) hj (by simpa using h)
    simp only [rowsA] at this
    simp only [rowsA, List.flatMap_cons, List.set_cons_succ]
    rw [List.set_append_right _ _ (by rw [r.enc_len, Nat.succ_mul]; omega), r.enc_len, Nat.succ_mul, show i * r.w + r.w + j - r.w = i * r.w + j by omega, this]

/-- What a block of one's own holds. -/
inductive Blk where
  | av (l : List AV)
  | tab (r : RK) (xs : List r.T)
  deriving Inhabited
inductive KS where
  | free
  | dead
  | live (b : Blk)
  deriving Inhabited
def Blk.cells : Blk → List AV
  | .av l => l
  | .tab r xs => rowsA r xs
/-- Does it take a block? An empty slice takes none. -/
def Blk.has : Blk → Prop
  | .av _ => True
  | .tab _ xs => xs ≠ []
/-- Blocks between which one's own references don't see a difference. -/
def Blk.like : Blk → Blk → Prop
  | .av _, .av _ => True
  | .tab r xs, .tab r' ys => r = r' ∧ xs.length = ys.length
  | _, _ => False
theorem Blk.like_refl : ∀ b : Blk, b.like b
  | .av _ => trivial
  | .tab _ _ => ⟨rfl, rfl⟩
theorem Blk.like_trans : ∀ {a b c : Blk}, a.like b → b.like c → a.like c
  | .av _, .av _, .av _, _, _ => trivial
  | .tab .., .tab .., .tab .., h, h' => ⟨h.1.trans h'.1, h.2.trans h'.2⟩
  | .av _, .av _, .tab .., _, h => h.elim
  | .av _, .tab .., _, h, _ => h.elim
  | .tab .., .av _, _, h, _ => h.elim
  | .tab .., .tab .., .av _, _, h => h.elim

abbrev Loc := Nat → KS
abbrev Mp := Nat → Nat × Nat
abbrev Fr := Nat → AV

def upd {α : Type} (f : Nat → α) (k : Nat) (v : α) : Nat → α := fun i => if i = k then v else f i
@[simp] theorem upd_same {α : Type} (f : Nat → α) (k : Nat) (v : α) : upd f k v k = v := by simp [upd]
theorem upd_ne {α : Type} (f : Nat → α) {k i : Nat} (v : α) (h : i ≠ k) : upd f k v i = f i := by simp [upd, h]
theorem upd_self {α : Type} (f : Nat → α) (k : Nat) : upd f k (f k) = f := by
  funext i; unfold upd; split
  · rename_i h; rw [h]
  · rfl

/-- A value without references. -/
def plain : AV → Bool
  | .undef | .bool _ | .int _ _ | .flt _ _ | .cpx _ _ _ => true
  | _ => false
def pl (x : AV) : AV := if plain x then x else .undef
theorem plain_pl (x : AV) : plain (pl x) = true := by
  unfold pl; split
  · assumption
  · rfl
/-- A scalar. -/
def SV : AV → Value → Prop
  | .bool b, v => v = .bool b
  | .int k n, v => v = .int k n
  | .flt k x, v => ∃ b, v = .float k b ∧ Fl k b x
  | .cpx k x y, v => ∃ a b, v = .complex k a b ∧ Fl k a x ∧ Fl k b y
  | _, _ => False
/-- Rows, cell behind cell. -/
def RowsAt (w : World) (r : RK) (xs : List r.T) (b off : Nat) : Prop :=
  ∀ i x, (rowsA r xs)[i]? = some x → ∃ c, w.cell? ⟨b, off + i, none⟩ = some c ∧ SV x c

def tagged (Tg : AV → Value → Prop) : AV → Value → Prop
  | .undef, _ => True
  | t, v => Tg t v

mutual
/-- 'v' is, in the world 'w', what 'x' says. 'F': the blocks of others, which nobody writes; 'Tg': what the caller knows of a reference by its name; 'm': the blocks of one's own. -/
def VR (F : Nat → Prop) (Tg : AV → Value → Prop) (w : World) (m : Mp) (L : Loc) : AV → Value → Prop
  | .undef, _ => True
  | .skip, v => v = Go.undef
  | .bool b, v => v = .bool b
  | .int k n, v => v = .int k n
  | .flt k x, v => ∃ b, v = .float k b ∧ Fl k b x
  | .fbits x, v => ∃ b : Nat, v = .int .u64 b ∧ Fl .f64 b x
  | .cpx k x y, v => ∃ a b, v = .complex k a b ∧ Fl k a x ∧ Fl k b y
  | .nil, v => v = .slice none 0 0
  | .emp _, v => ∃ b, v = .slice b 0 0
  | .loc k off, v => L k ≠ .free ∧ ∀ b, L k = .live b → v = .pointer (some ⟨(m k).1, off, none⟩)
  | .osl k, v => L k ≠ .free ∧ ∀ r xs, L k = .live (.tab r xs) → (xs = [] ∧ ∃ b, v = .slice b 0 0) ∨ (xs ≠ [] ∧ ∃ cap, v = .slice (some ⟨(m k).1, 0, none⟩) xs.length cap ∧ xs.length ≤ cap ∧ cap * r.w ≤ (m k).2)
  | .eloc k i j, v => L k ≠ .free ∧ ∀ r xs, L k = .live (.tab r xs) → v = .pointer (some ⟨(m k).1, i * r.w + j, none⟩) ∧ i < xs.length ∧ j < r.w
  | .ref cells t, v => tagged Tg t v ∧ ∃ b off, v = .pointer (some ⟨b, off, none⟩) ∧ F b ∧ VRat F Tg w m L cells b off
  | .sli r xs t, v => tagged Tg t v ∧ ((∃ b, v = .slice b 0 0 ∧ xs = []) ∨ ∃ b off cap, v = .slice (some ⟨b, off, none⟩) xs.length cap ∧ xs.length ≤ cap ∧ F b ∧ RowsAt w r xs b off)
  | .eref r xs i j, v => i < xs.length ∧ j < r.w ∧ ∃ b off, v = .pointer (some ⟨b, off + (i * r.w + j), none⟩) ∧ F b ∧ RowsAt w r xs b off
  | .own _ _ _, _ => False
  | .agg cells, v => ∃ cs : Array Value, v = .agg cs ∧ VRs F Tg w m L cells cs.toList
  | .tup vs, v => ∃ cs : Array Value, v = .tuple cs ∧ VRs F Tg w m L vs cs.toList
  | .fn f caps, v => ∃ cs : Array Value, v = .func (.func f) #[] cs ∧ VRs F Tg w m L caps cs.toList
def VRs (F : Nat → Prop) (Tg : AV → Value → Prop) (w : World) (m : Mp) (L : Loc) : List AV → List Value → Prop
  | [], vs => vs = []
  | x :: xs, vs => ∃ v vs', vs = v :: vs' ∧ VR F Tg w m L x v ∧ VRs F Tg w m L xs vs'
def VRat (F : Nat → Prop) (Tg : AV → Value → Prop) (w : World) (m : Mp) (L : Loc) : List AV → Nat → Nat → Prop
  | [], _, _ => True
  | x :: xs, b, off => (∃ c, w.cell? ⟨b, off, none⟩ = some c ∧ VR F Tg w m L x c) ∧ VRat F Tg w m L xs b (off + 1)
end

/-- The blocks of others, the streams and the number of blocks, from one world to a later one. -/
structure Kept (F : Nat → Prop) (w w' : World) : Prop where
  os : w'.os = w.os
  tape : w'.tape = w.tape
  output : w'.output = w.output
  size : w.heap.size ≤ w'.heap.size
  block : ∀ k, F k → w'.heap[k]? = w.heap[k]?

section
variable {F F' : Nat → Prop} {Tg Tg' : AV → Value → Prop} {w w' : World} {m m' : Mp} {L L' : Loc}

theorem SV.vr {x : AV} {v : Value} (h : SV x v) : VR F Tg w m L x v := by
  cases x <;> simp only [SV] at h <;> simp only [VR] <;> exact h
theorem VR.sv {x : AV} {v : Value} (h : VR F Tg w m L x v) (hp : plain x = true) (hu : x ≠ .undef) : SV x v := by
  cases x <;> simp [plain] at hp <;> simp only [VR] at h <;> simp only [SV] <;> first | exact h | exact absurd rfl hu

theorem Kept.refl : Kept F w w := ⟨rfl, rfl, rfl, Nat.le_refl _, fun _ _ => rfl⟩
theorem Kept.trans {w'' : World} (h : Kept F w w') (k : Kept F w' w'') : Kept F w w'' :=
  ⟨k.os.trans h.os, k.tape.trans h.tape, k.output.trans h.output, Nat.le_trans h.size k.size, fun i hi => (k.block i hi).trans (h.block i hi)⟩
theorem Kept.of_below (h : Below w.heap.size w w') (hF : ∀ k, F k → k < w.heap.size) : Kept F w w' :=
  ⟨h.os, h.tape, h.output, h.size, fun k hk => h.block k (hF k hk)⟩
theorem Kept.below (h : Kept (fun b => b < w.heap.size) w w') : Below w.heap.size w w' := ⟨h.os, h.tape, h.output, h.size, h.block⟩
theorem Kept.mono (h : Kept F w w') (hF : ∀ k, F' k → F k) : Kept F' w w' := ⟨h.os, h.tape, h.output, h.size, fun k hk => h.block k (hF k hk)⟩
theorem Kept.cell (h : Kept F w w') {b : Nat} (hb : F b) (off : Nat) : w'.cell? ⟨b, off, none⟩ = w.cell? ⟨b, off, none⟩ := World.cell?_of_block (w := w) (h.block b hb)

/-- What is asked of a step: what is foreign stays as it is; blocks of one's own keep their place. -/
structure Keeps (F : Nat → Prop) (w w' : World) (m m' : Mp) (L L' : Loc) : Prop where
  cell : ∀ b off, F b → w'.cell? ⟨b, off, none⟩ = w.cell? ⟨b, off, none⟩
  nf : ∀ k, L k ≠ .free → L' k ≠ .free
  place : ∀ k b', L k ≠ .free → L' k = .live b' → ∃ b, L k = .live b ∧ m' k = m k ∧ b.like b'

theorem Keeps.of_kept (h : Kept F w w') : Keeps F w w' m m L L :=
  ⟨fun _ off hb => h.cell hb off, fun _ h => h, fun _ b' _ h => ⟨b', h, rfl, b'.like_refl⟩⟩
theorem Keeps.refl : Keeps F w w m m L L := .of_kept .refl
theorem Keeps.trans {w'' : World} {m'' : Mp} {L'' : Loc} (h : Keeps F w w' m m' L L') (h' : Keeps F w' w'' m' m'' L' L'') : Keeps F w w'' m m'' L L'' :=
  ⟨fun b off hb => (h'.cell b off hb).trans (h.cell b off hb), fun k hk => h'.nf k (h.nf k hk), fun k b'' hk hb => by
    obtain ⟨b', h1, h2, h3⟩ := h'.place k b'' (h.nf k hk) hb
    obtain ⟨b, h4, h5, h6⟩ := h.place k b' hk h1
    exact ⟨b, h4, h2.trans h5, Blk.like_trans h6 h3⟩⟩
theorem Keeps.tab (h : Keeps F w w' m m' L L') {k : Nat} {r : RK} {ys : List r.T} (hk : L k ≠ .free) (hl : L' k = .live (.tab r ys)) : ∃ xs : List r.T, L k = .live (.tab r xs) ∧ m' k = m k ∧ xs.length = ys.length := by
  obtain ⟨b, h1, h2, h3⟩ := h.place k _ hk hl
  cases b with
  | av l => exact h3.elim
  | tab r' xs => obtain ⟨rfl, h4⟩ := h3; exact ⟨xs, h1, h2, h4⟩
theorem RowsAt.keep {r : RK} {xs : List r.T} {b off : Nat} (h : ∀ off, w'.cell? ⟨b, off, none⟩ = w.cell? ⟨b, off, none⟩) (hr : RowsAt w r xs b off) : RowsAt w' r xs b off := by
  intro i x hx
  obtain ⟨c, hc, hs⟩ := hr i x hx
  exact ⟨c, by rw [h]; exact hc, hs⟩

mutual
theorem VR.keep (h : Keeps F w w' m m' L L') : ∀ {x : AV} {v : Value}, VR F Tg w m L x v → VR F Tg w' m' L' x v
  | .undef, _, _ => by simp [VR]
  | .skip, _, hv => by simpa [VR] using hv
  | .bool _, _, hv => by simpa [VR] using hv
  | .int _ _, _, hv => by simpa [VR] using hv
  | .flt _ _, _, hv => by simpa [VR] using hv
  | .fbits _, _, hv => by simpa [VR] using hv
  | .cpx _ _ _, _, hv => by simpa [VR] using hv
  | .nil, _, hv => by simpa [VR] using hv
  | .emp _, _, hv => by simpa [VR] using hv
  | .loc k off, _, hv => by
    simp only [VR] at hv ⊢
    refine ⟨h.nf k hv.1, fun b hb => ?_⟩
    obtain ⟨b0, h1, h2, _⟩ := h.place k b hv.1 hb
    rw [h2]; exact hv.2 b0 h1
  | .osl k, _, hv => by
    simp only [VR] at hv ⊢
    refine ⟨h.nf k hv.1, fun r ys hb => ?_⟩
    obtain ⟨xs, h1, h2, h3⟩ := h.tab hv.1 hb
    have he : xs = [] ↔ ys = [] := by rw [← List.length_eq_zero_iff, ← List.length_eq_zero_iff, h3]
    rcases hv.2 r xs h1 with ⟨e, g⟩ | ⟨e, g⟩
    · exact .inl ⟨he.1 e, g⟩
    · refine .inr ⟨fun e' => e (he.2 e'), ?_⟩
      rw [h2, ← h3]; exact g
  | .eloc k i j, _, hv => by
    simp only [VR] at hv ⊢
    refine ⟨h.nf k hv.1, fun r ys hb => ?_⟩
    obtain ⟨xs, h1, h2, h3⟩ := h.tab hv.1 hb
    rw [h2, ← h3]; exact hv.2 r xs h1
  | .ref cells t, _, hv => by
    simp only [VR] at hv ⊢
    obtain ⟨ht, b, off, e, hb, hc⟩ := hv
    exact ⟨ht, b, off, e, hb, VRat.keep h hb hc⟩
  | .sli r xs t, _, hv => by
    simp only [VR] at hv ⊢
    obtain ⟨ht, hv | ⟨b, off, cap, e, hle, hb, hc⟩⟩ := hv
    · exact ⟨ht, .inl hv⟩
    · exact ⟨ht, .inr ⟨b, off, cap, e, hle, hb, hc.keep fun off => h.cell b off hb⟩⟩
  | .eref r xs i j, _, hv => by
    simp only [VR] at hv ⊢
    obtain ⟨h1, h2, b, off, e, hb, hc⟩ := hv
    exact ⟨h1, h2, b, off, e, hb, hc.keep fun off => h.cell b off hb⟩
  | .own _ _ _, _, hv => by simp [VR] at hv
  | .agg _, _, hv => by
    simp only [VR] at hv ⊢
    obtain ⟨cs, e, hc⟩ := hv
    exact ⟨cs, e, VRs.keep h hc⟩
  | .tup _, _, hv => by
    simp only [VR] at hv ⊢
    obtain ⟨cs, e, hc⟩ := hv
    exact ⟨cs, e, VRs.keep h hc⟩
  | .fn _ _, _, hv => by
    simp only [VR] at hv ⊢
    obtain ⟨cs, e, hc⟩ := hv
    exact ⟨cs, e, VRs.keep h hc⟩
theorem VRs.keep (h : Keeps F w w' m m' L L') : ∀ {xs : List AV} {vs : List Value}, VRs F Tg w m L xs vs → VRs F Tg w' m' L' xs vs
  | [], _, hv => by simpa [VRs] using hv
  | x :: xs, _, hv => by
    simp only [VRs] at hv ⊢
    obtain ⟨v, vs', e, h1, h2⟩ := hv
    exact ⟨v, vs', e, VR.keep h h1, VRs.keep h h2⟩
theorem VRat.keep (h : Keeps F w w' m m' L L') : ∀ {xs : List AV} {b off : Nat}, F b → VRat F Tg w m L xs b off → VRat F Tg w' m' L' xs b off
  | [], _, _, _, _ => by simp [VRat]
  | x :: xs, b, off, hb, hv => by
    simp only [VRat] at hv ⊢
    obtain ⟨⟨c, hc, h1⟩, h2⟩ := hv
    exact ⟨⟨c, by rw [h.cell b off hb]; exact hc, VR.keep h h1⟩, VRat.keep h hb h2⟩
end

/-- The first cells of a block of one's own. -/
def VRpre (F : Nat → Prop) (Tg : AV → Value → Prop) (w : World) (m : Mp) (L : Loc) : List AV → List Value → Prop
  | [], _ => True
  | x :: xs, vs => ∃ v vs', vs = v :: vs' ∧ VR F Tg w m L x v ∧ VRpre F Tg w m L xs vs'
theorem VRpre.keep (h : Keeps F w w' m m' L L') : ∀ {xs : List AV} {vs : List Value}, VRpre F Tg w m L xs vs → VRpre F Tg w' m' L' xs vs
  | [], _, _ => by simp [VRpre]
  | x :: xs, _, hv => by
    simp only [VRpre] at hv ⊢
    obtain ⟨v, vs', e, h1, h2⟩ := hv
    exact ⟨v, vs', e, VR.keep h h1, VRpre.keep h h2⟩
theorem VRs.pre : ∀ {xs : List AV} {vs : List Value}, VRs F Tg w m L xs vs → VRpre F Tg w m L xs vs
  | [], _, _ => by simp [VRpre]
  | x :: xs, _, hv => by
    simp only [VRs, VRpre] at hv ⊢
    obtain ⟨v, vs', e, h1, h2⟩ := hv
    exact ⟨v, vs', e, h1, VRs.pre h2⟩
theorem VRs.length : ∀ {xs : List AV} {vs : List Value}, VRs F Tg w m L xs vs → vs.length = xs.length
  | [], _, hv => by simp [VRs] at hv; simp [hv]
  | x :: xs, _, hv => by
    simp only [VRs] at hv
    obtain ⟨v, vs', rfl, h1, h2⟩ := hv
    simp [VRs.length h2]
theorem VRs.get : ∀ {xs : List AV} {vs : List Value}, VRs F Tg w m L xs vs → ∀ {i : Nat} {x : AV}, xs[i]? = some x → ∃ v, vs[i]? = some v ∧ VR F Tg w m L x v
  | [], _, _, i, _, hx => by simp at hx
  | x :: xs, _, hv, i, y, hx => by
    simp only [VRs] at hv
    obtain ⟨v, vs', rfl, h1, h2⟩ := hv
    cases i with
    | zero => simp at hx; subst hx; exact ⟨v, by simp, h1⟩
    | succ i => simp at hx; simpa using VRs.get h2 hx
theorem VRpre.get : ∀ {xs : List AV} {vs : List Value}, VRpre F Tg w m L xs vs → ∀ {i : Nat} {x : AV}, xs[i]? = some x → ∃ v, vs[i]? = some v ∧ VR F Tg w m L x v
  | [], _, _, i, _, hx => by simp at hx
  | x :: xs, _, hv, i, y, hx => by
    simp only [VRpre] at hv
    obtain ⟨v, vs', rfl, h1, h2⟩ := hv
    cases i with
    | zero => simp at hx; subst hx; exact ⟨v, by simp, h1⟩
    | succ i => simp at hx; simpa using VRpre.get h2 hx
theorem VRpre.length_le : ∀ {xs : List AV} {vs : List Value}, VRpre F Tg w m L xs vs → xs.length ≤ vs.length
  | [], _, _ => by simp
  | x :: xs, _, hv => by
    simp only [VRpre] at hv
    obtain ⟨v, vs', rfl, h1, h2⟩ := hv
    simpa using VRpre.length_le h2
theorem VRat.get : ∀ {xs : List AV} {b off : Nat}, VRat F Tg w m L xs b off → ∀ {i : Nat} {x : AV}, xs[i]? = some x → ∃ v, w.cell? ⟨b, off + i, none⟩ = some v ∧ VR F Tg w m L x v
  | [], _, _, _, i, _, hx => by simp at hx
  | x :: xs, b, off, hv, i, y, hx => by
    simp only [VRat] at hv
    obtain ⟨⟨c, hc, h1⟩, h2⟩ := hv
    cases i with
    | zero => simp at hx; subst hx; exact ⟨c, by simpa using hc, h1⟩
    | succ i =>
      simp at hx
      obtain ⟨v, hv, hr⟩ := VRat.get h2 hx
      exact ⟨v, by rw [show off + (i + 1) = off + 1 + i by omega]; exact hv, hr⟩
theorem VRat.drop : ∀ {xs : List AV} {b off : Nat} (n : Nat), VRat F Tg w m L xs b off → VRat F Tg w m L (xs.drop n) b (off + n)
  | xs, b, off, 0, h => by simpa using h
  | [], b, off, n + 1, h => by simp [VRat]
  | x :: xs, b, off, n + 1, h => by
    simp only [VRat] at h
    have := VRat.drop n h.2
    simpa [Nat.add_assoc, Nat.add_comm 1 n] using this
theorem VRat.take : ∀ {xs : List AV} {b off : Nat} (n : Nat), VRat F Tg w m L xs b off → VRat F Tg w m L (xs.take n) b off
  | xs, b, off, 0, h => by simp [VRat]
  | [], b, off, n + 1, h => by simp [VRat]
  | x :: xs, b, off, n + 1, h => by
    simp only [VRat, List.take_succ_cons] at h ⊢
    exact ⟨h.1, VRat.take n h.2⟩
theorem VRs.append : ∀ {xs ys : List AV} {vs us : List Value}, VRs F Tg w m L xs vs → VRs F Tg w m L ys us → VRs F Tg w m L (xs ++ ys) (vs ++ us)
  | [], _, _, _, h, h' => by simp [VRs] at h; subst h; simpa using h'
  | x :: xs, _, _, _, h, h' => by
    simp only [VRs] at h
    obtain ⟨v, vs', rfl, h1, h2⟩ := h
    simp only [List.cons_append, VRs]
    exact ⟨v, _, rfl, h1, VRs.append h2 h'⟩
theorem VRs.of_get : ∀ {xs : List AV} {vs : List Value}, vs.length = xs.length → (∀ (i : Nat) (x : AV), xs[i]? = some x → ∃ v, vs[i]? = some v ∧ VR F Tg w m L x v) → VRs F Tg w m L xs vs
  | [], vs, hl, _ => by simp at hl; simp [VRs, hl]
  | x :: xs, [], hl, _ => by simp at hl
  | x :: xs, v :: vs, hl, h => by
    simp only [VRs]
    obtain ⟨u, hu, hr⟩ := h 0 x (by simp)
    simp at hu; subst hu
    exact ⟨v, vs, rfl, hr, VRs.of_get (by simpa using hl) fun i y hy => by simpa using h (i + 1) y (by simpa using hy)⟩
theorem VRpre.of_get : ∀ {xs : List AV} {vs : List Value}, (∀ (i : Nat) (x : AV), xs[i]? = some x → ∃ v, vs[i]? = some v ∧ VR F Tg w m L x v) → VRpre F Tg w m L xs vs
  | [], vs, _ => by simp [VRpre]
  | x :: xs, [], h => by obtain ⟨u, hu, _⟩ := h 0 x (by simp); simp at hu
  | x :: xs, v :: vs, h => by
    simp only [VRpre]
    obtain ⟨u, hu, hr⟩ := h 0 x (by simp)
    simp at hu; subst hu
    exact ⟨v, vs, rfl, hr, VRpre.of_get fun i y hy => by simpa using h (i + 1) y (by simpa using hy)⟩
theorem VRat.of_get : ∀ {xs : List AV} {b off : Nat}, (∀ (i : Nat) (x : AV), xs[i]? = some x → ∃ v, w.cell? ⟨b, off + i, none⟩ = some v ∧ VR F Tg w m L x v) → VRat F Tg w m L xs b off
  | [], _, _, _ => by simp [VRat]
  | x :: xs, b, off, h => by
    simp only [VRat]
    refine ⟨by simpa using h 0 x (by simp), VRat.of_get fun i y hy => ?_⟩
    have := h (i + 1) y (by simpa using hy)
    rwa [show off + (i + 1) = off + 1 + i by omega] at this
/-- A plain value is the same thing everywhere. -/
theorem VR.of_plain {x : AV} {v : Value} (hp : plain x = true) (h : VR F Tg w m L x v) : VR F' Tg' w' m' L' x v := by
  cases x <;> simp [plain] at hp <;> (simp only [VR] at h ⊢; try exact h)
/-- The cells of rows are scalars. -/
theorem rowsA_plain {r : RK} {xs : List r.T} {x : AV} (h : x ∈ rowsA r xs) : plain x = true ∧ x ≠ .undef := by
  simp only [rowsA, List.mem_flatMap] at h
  obtain ⟨y, _, hy⟩ := h
  cases r <;> simp only [RK.enc, List.mem_cons, List.not_mem_nil, or_false] at hy
  case f32 => subst hy; exact ⟨rfl, by simp⟩
  case int => subst hy; exact ⟨rfl, by simp⟩
  case f4 => rcases hy with rfl | rfl | rfl | rfl <;> exact ⟨rfl, by simp⟩
  case nb => rcases hy with rfl | rfl <;> exact ⟨rfl, by simp⟩
  case c64 => subst hy; exact ⟨rfl, by simp⟩
/-- Rows in a block of one's own. -/
def RowsIn (r : RK) (xs : List r.T) (vs : List Value) : Prop := ∀ (i : Nat) (x : AV), (rowsA r xs)[i]? = some x → ∃ c, vs[i]? = some c ∧ SV x c
theorem RowsIn.pre {r : RK} {xs : List r.T} {vs : List Value} (h : RowsIn r xs vs) : VRpre F Tg w m L (rowsA r xs) vs :=
  VRpre.of_get fun i x hx => by
    obtain ⟨c, hc, hs⟩ := h i x hx
    exact ⟨c, hc, hs.vr⟩
theorem VRpre.rows {r : RK} {xs : List r.T} {vs : List Value} (h : VRpre F Tg w m L (rowsA r xs) vs) : RowsIn r xs vs := fun i x hx => by
  obtain ⟨c, hc, hs⟩ := h.get hx
  have := rowsA_plain (List.mem_of_getElem? hx)
  exact ⟨c, hc, hs.sv this.1 this.2⟩
theorem RowsIn.at {r : RK} {xs : List r.T} {c : Array Value} {t : TypeId} {b : Nat} (hb : w.heap[b]? = some (.cells c t (0, 0))) (h : RowsIn r xs c.toList) : RowsAt w r xs b 0 := fun i x hx => by
  obtain ⟨v, hv, hr⟩ := h i x hx
  refine ⟨v, ?_, hr⟩
  simp only [World.cell?, hb]
  simpa using hv
end

/-- The blocks of a function's own. -/
def HP (F : Nat → Prop) (Tg : AV → Value → Prop) (w : World) (m : Mp) (L : Loc) : Prop :=
  ∀ k b, L k = .live b → b.has → ¬ F (m k).1 ∧ ∃ c t, w.heap[(m k).1]? = some (.cells c t (0, 0)) ∧ c.size = (m k).2 ∧ VRpre F Tg w m L b.cells c.toList

/-- Which blocks of one's own may be one and the same. -/
abbrev Sh := Nat → Nat → Prop
def noSh : Sh := fun _ _ => False

/-- The key of the block that is lent. -/
def LK : Nat := 1000000
/-- A state of a run of a function: what the frame 'a' and the world 'w' are, by 'fr' and 'L'. -/
structure Rel (F : Nat → Prop) (Tg : AV → Value → Prop) (pn : Option (Nat × Nat)) (N : Nat) (w0 : World) (sh : Sh) (m : Mp) (fr : Fr) (L : Loc) (a : Act) (w : World) : Prop where
  kept : Kept F w0 w
  sub : ∀ b, F b → b < w.heap.size
  heap : HP F Tg w m L
  inj : ∀ k k' c c', L k = .live c → c.has → L k' = .live c' → c'.has → (m k).1 = (m k').1 → k = k' ∨ sh k k' ∨ sh k' k
  pin : ∀ p b, pn = some p → L LK = .live b → m LK = p
  size : a.tmps.size = N
  defers : a.defers = []
  tmps : ∀ t, VR F Tg w m L (fr t) (a.tmps.getD t Go.undef)

section
variable {F : Nat → Prop} {N : Nat} {pn : Option (Nat × Nat)} {Tg : AV → Value → Prop} {w0 w w' : World} {sh : Sh} {m m' : Mp} {L L' : Loc} {fr : Fr} {a : Act}

def putA (N : Nat) (fr : Fr) (dst : Option Tmp) (v : AV) : Fr :=
  match dst with
  | some d => if d < N then upd fr d v else upd fr d .undef
  | none => fr

theorem Rel.put (h : Rel F Tg pn N w0 sh m fr L a w) (dst : Option Tmp) {x : AV} {v : Value} (hv : VR F Tg w m L x v) : Rel F Tg pn N w0 sh m (putA N fr dst x) L (a.put dst v) w := by
  cases dst with
  | none => exact h
  | some d =>
    refine ⟨h.kept, h.sub, h.heap, h.inj, h.pin, by simp [Act.put, h.size], by simp [Act.put, h.defers], fun t => ?_⟩
    simp only [putA, Act.put]
    have ht := h.tmps t
    have hs : a.tmps.size = N := h.size
    by_cases hd : d < N
    · rw [if_pos hd]
      by_cases e : t = d
      · subst e
        have ht' : t < a.tmps.size := by rw [hs]; exact hd
        rw [upd_same]
        simp only [Array.getD_eq_getD_getElem?, Array.getElem?_setIfInBounds, if_true, ht', Option.getD_some]
        exact hv
      · rw [upd_ne _ _ e]
        simp only [Array.getD_eq_getD_getElem?, Array.getElem?_setIfInBounds] at ht ⊢
        rw [if_neg (fun h => e h.symm)]; exact ht
    · rw [if_neg hd]
      by_cases e : t = d
      · subst e; rw [upd_same]; simp [VR]
      · rw [upd_ne _ _ e]
        simp only [Array.getD_eq_getD_getElem?, Array.getElem?_setIfInBounds] at ht ⊢
        rw [if_neg (fun h => e h.symm)]; exact ht

/-- The world has moved on, and of what there was nothing has turned. -/
theorem Rel.world (h : Rel F Tg pn N w0 sh m fr L a w) (hb : Below w.heap.size w w') : Rel F Tg pn N w0 sh m fr L a w' := by
  have hkp : Kept F w w' := .of_below hb h.sub
  have hk : Keeps F w w' m m L L := .of_kept hkp
  refine ⟨h.kept.trans hkp, fun b hb' => Nat.lt_of_lt_of_le (h.sub b hb') hb.size, fun k b hc hbh => ?_, h.inj, h.pin, h.size, h.defers, fun t => (h.tmps t).keep hk⟩
  obtain ⟨h1, c, t, h2, h3, h4⟩ := h.heap k b hc hbh
  refine ⟨h1, c, t, ?_, h3, h4.keep hk⟩
  have hlt : (m k).1 < w.heap.size := by
    rcases Nat.lt_or_ge (m k).1 w.heap.size with h' | h'
    · exact h'
    · simp [Array.getElem?_eq_none h'] at h2
  rw [hb.block _ hlt]; exact h2

theorem Keeps.fresh {k : Nat} (hk : L k = .free) (v : Nat × Nat) (s : KS) (hs : s ≠ .free) : Keeps F w w m (upd m k v) L (upd L k s) := by
  refine ⟨fun _ _ _ => rfl, fun i hi => ?_, fun i b hi hb => ?_⟩
  · by_cases e : i = k
    · subst e; rw [upd_same]; exact hs
    · rw [upd_ne _ _ e]; exact hi
  · by_cases e : i = k
    · subst e; exact absurd hk hi
    · rw [upd_ne _ _ e] at hb ⊢; exact ⟨b, hb, rfl, b.like_refl⟩

theorem HP.lt (h : HP F Tg w m L) {k : Nat} {b : Blk} (hc : L k = .live b) (hb : b.has) : (m k).1 < w.heap.size := by
  obtain ⟨_, c, t, h2, _⟩ := h k b hc hb
  rcases Nat.lt_or_ge (m k).1 w.heap.size with h' | h'
  · exact h'
  · simp [Array.getElem?_eq_none h'] at h2

/-- A block of the function's own more: its key was free. -/
theorem Rel.new (h : Rel F Tg pn N w0 sh m fr L a w) {k : Nat} (hfr : L k = .free) (hLK : k ≠ LK) (b : Nat) (B : Blk) (c : Array Value) (t : TypeId) (hbl : w.heap[b]? = some (.cells c t (0, 0))) (hge : ¬ F b)
    (hfree : ∀ k' c', L k' = .live c' → c'.has → k' ≠ k → (m k').1 = b → sh k k')
    (hc : VRpre F Tg w (upd m k (b, c.size)) (upd L k (.live B)) B.cells c.toList) :
    Rel F Tg pn N w0 sh (upd m k (b, c.size)) fr (upd L k (.live B)) a w := by
  have hk : Keeps F w w m (upd m k (b, c.size)) L (upd L k (.live B)) := .fresh hfr _ _ (by simp)
  refine ⟨h.kept, h.sub, fun i cs hcs hhas => ?_, fun i j c1 c2 hi hb1 hj hb2 e => ?_, fun p b' e hb' => (by rw [upd_ne _ _ (Ne.symm hLK)] at hb' ⊢; exact h.pin p b' e hb'), h.size, h.defers, fun t => (h.tmps t).keep hk⟩
  · by_cases hi : i = k
    · subst hi
      simp at hcs ⊢; subst hcs
      exact ⟨hge, c, ⟨t, hbl⟩, rfl, hc⟩
    · rw [upd_ne _ _ hi] at hcs ⊢
      obtain ⟨h1, c1, t1, h2, h3, h4⟩ := h.heap i cs hcs hhas
      exact ⟨h1, c1, t1, h2, h3, h4.keep hk⟩
  · by_cases hik : i = k
    · by_cases hjk : j = k
      · exact .inl (hik.trans hjk.symm)
      · rw [hik] at hi e
        rw [upd_ne _ _ hjk] at hj e
        simp at e
        rw [hik]; exact .inr (.inl (hfree j _ hj hb2 hjk e.symm))
    · by_cases hjk : j = k
      · rw [hjk] at hj e
        rw [upd_ne _ _ hik] at hi e
        simp at e
        rw [hjk]; exact .inr (.inr (hfree i _ hi hb1 hik e))
      · rw [upd_ne _ _ hik] at hi e
        rw [upd_ne _ _ hjk] at hj e
        exact h.inj i j _ _ hi hb1 hj hb2 e

/-- An empty slice more: it takes no block. -/
theorem Rel.newEmpty (h : Rel F Tg pn N w0 sh m fr L a w) {k : Nat} (hfr : L k = .free) (hLK : k ≠ LK) (r : RK) : Rel F Tg pn N w0 sh m fr (upd L k (.live (.tab r []))) a w := by
  have hk : Keeps F w w m m L (upd L k (.live (.tab r []))) := by
    have := Keeps.fresh (F := F) (w := w) (m := m) hfr (m k) (.live (.tab r [])) (by simp)
    rwa [upd_self] at this
  have hl : ∀ i b, upd L k (.live (.tab r [])) i = .live b → b.has → L i = .live b := fun i b hb hh => by
    by_cases e : i = k
    · subst e; rw [upd_same] at hb; cases hb; exact absurd rfl hh
    · rwa [upd_ne _ _ e] at hb
  refine ⟨h.kept, h.sub, fun i b hb hh => ?_, fun i j c1 c2 hi hb1 hj hb2 e => h.inj i j c1 c2 (hl _ _ hi hb1) hb1 (hl _ _ hj hb2) hb2 e, fun p b' e hb' => (by rw [upd_ne _ _ (Ne.symm hLK)] at hb'; exact h.pin p b' e hb'), h.size, h.defers, fun t => (h.tmps t).keep hk⟩
  obtain ⟨h1, c1, t1, h2, h3, h4⟩ := h.heap i b (hl _ _ hb hh) hh
  exact ⟨h1, c1, t1, h2, h3, h4.keep hk⟩
/-- A new block. -/
theorem Rel.alloc (h : Rel F Tg pn N w0 sh m fr L a w) {k : Nat} (hfr : L k = .free) (hLK : k ≠ LK) {B : Blk} {c : Array Value} (t : TypeId) (hc : VRs F Tg w m L B.cells c.toList) :
    Rel F Tg pn N w0 sh (upd m k (w.heap.size, c.size)) fr (upd L k (.live B)) a (w.alloc (.cells c t)) := by
  have hb : Below w.heap.size w (w.alloc (.cells c t)) := (Below.refl _ _).alloc (Nat.le_refl _) _
  have hk : Keeps F w (w.alloc (.cells c t)) m m L L := .of_kept (.of_below hb h.sub)
  refine (h.world hb).new hfr hLK w.heap.size B c t (by show (w.heap.push _)[w.heap.size]? = _; simp) (fun hF => absurd (h.sub _ hF) (Nat.lt_irrefl _)) (fun k' c' hc' hb' _ e => ?_) ((hc.keep hk).keep (.fresh hfr _ _ (by simp))).pre
  have := h.heap.lt hc' hb'; omega
end
#print axioms Rel.alloc
end Go.Bx
