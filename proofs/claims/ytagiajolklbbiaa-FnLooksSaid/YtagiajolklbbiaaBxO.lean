/- Operands; how a callee sees what it is handed, and a caller what it is handed back; what a function does. -/
import Derived.Test.YtagiajolklbbiaaBxV
namespace Go.Bx
open Go.Ax
open Go.RowKit (Below)

def szOf (P : Program) (T : TypeId) : Option Nat := (P.info? T).map (·.size)
def zeroOf (P : Program) (T : TypeId) : Option Value := (P.info? T).bind (·.zero)
def isF32 (P : Program) (off : Nat) (f : Field) : Bool := Nat.beq f.offset off && (match P.underlying f.type with | some (.float .f32) => true | _ => false)
def isI64 (P : Program) (off : Nat) (f : Field) : Bool := Nat.beq f.offset off && (match P.underlying f.type with | some (.int .i64) => true | _ => false)
def rowKind0 (P : Program) (e : TypeId) : Option RK :=
  match P.underlying e with
  | some (.float .f32) => some .f32
  | some (.int k) => some (.int k)
  | some (.complex .f32) => some .c64
  | some (.struct fs) => match fs.toList with
    | [a, b, c, d] => match isF32 P 0 a && isF32 P 1 b && isF32 P 2 c && isF32 P 3 d with
      | true => some .f4
      | false => none
    | [a, b] => match isI64 P 0 a && isF32 P 1 b with
      | true => some .nb
      | false => none
    | _ => none
  | _ => none
/-- The kind of the elements of a type. -/
def rowKind (P : Program) (e : TypeId) : Option RK :=
  match rowKind0 P e with
  | some r => match szOf P e with
    | some n => match Nat.beq n r.w with
      | true => some r
      | false => none
    | none => none
  | none => none
theorem rowKind_sz {P : Program} {e : TypeId} {r : RK} (h : rowKind P e = some r) : szOf P e = some r.w := by
  unfold rowKind at h
  split at h
  · rename_i r' _
    split at h
    · rename_i n hn
      split at h
      · rename_i hb; cases h; rw [hn, Nat.eq_of_beq_eq_true hb]
      · cases h
    · cases h
  · cases h

/-- A constant. -/
def ofCell : Value → AV
  | .bool b => .bool b
  | .int k n => .int k n
  | .float k b => if b < 2 ^ k.format.width then .flt k (canon k b) else .undef
  | .complex k a b => if a < 2 ^ k.format.width ∧ b < 2 ^ k.format.width then .cpx k (canon k a) (canon k b) else .undef
  | .slice none 0 0 => .nil
  | _ => .undef
def ofConst : Value → AV
  | .agg cs => .agg (cs.toList.map ofCell)
  | v => ofCell v
def evA (fr : Fr) : Operand → AV
  | .tmp t => fr t
  | .const v => ofConst v
  | .func f => .fn f []
  | .global _ => .undef
def isNilA : AV → Bool
  | .nil => true
  | _ => false
def coNil (P : Program) (T : TypeId) : AV :=
  match P.underlying T with
  | some (.slice e) => match rowKind P e with
    | some r => .emp r
    | none => .nil
  | _ => .nil
def coCells (P : Program) : List Field → List AV → List AV
  | [], cells => cells
  | f :: fs, cells => match cells[f.offset]? with
    | some .nil => coCells P fs (cells.set f.offset (coNil P f.type))
    | _ => coCells P fs cells
/-- A nil slice, typed. -/
def coA (P : Program) (T : TypeId) (x : AV) : AV :=
  match x with
  | .nil => coNil P T
  | .agg cells => match cells.any isNilA with
    | false => .agg cells
    | true => match P.underlying T with
      | some (.struct fs) => .agg (coCells P fs.toList cells)
      | _ => .agg cells
  | x => x

/-- How a callee sees what it is handed. -/
def fz : Nat → Loc → AV → AV
  | 0, _, x => pl x
  | n + 1, L, x => match x with
    | .loc k off => match L k with
      | .live (.av cells) => .ref ((cells.drop off).map (fz n L)) (.loc k off)
      | _ => .undef
    | .eloc k i j => match L k with
      | .live (.tab r xs) => .ref ((r.enc (xs.getD i r.z)).drop j) (.eloc k i j)
      | _ => .undef
    | .osl k => match L k with
      | .live (.tab r xs) => .sli r xs (.osl k)
      | _ => .undef
    | .emp r => .sli r [] (.emp r)
    | .ref cells t => .ref (cells.map (fz n L)) (.ref cells t)
    | .sli r xs t => .sli r xs (.sli r xs t)
    | .eref r xs i j => .ref ((r.enc (xs.getD i r.z)).drop j) (.eref r xs i j)
    | .agg cells => .agg (cells.map (fz n L))
    | .tup vs => .tup (vs.map (fz n L))
    | .fn f caps => .fn f (caps.map (fz n L))
    | .own .. => .undef
    | x => x

/-- The new slices in a result. -/
def owns : Nat → AV → List (Nat × Blk)
  | 0, _ => []
  | n + 1, x => match x with
    | .own i r xs => [(i, .tab r xs)]
    | .agg cells => cells.flatMap (owns n)
    | .tup vs => vs.flatMap (owns n)
    | _ => []
/-- How a caller sees what it is handed back. -/
def imp : Nat → Nat → AV → AV
  | 0, _, x => pl x
  | n + 1, t, x => match x with
    | .ref _ t' => t'
    | .sli _ _ t' => t'
    | .own i _ _ => .osl (t * 4 + i)
    | .agg cells => .agg (cells.map (imp n t))
    | .tup vs => .tup (vs.map (imp n t))
    | .fn f caps => .fn f (caps.map fun _ => .undef)
    | .loc .. | .osl .. | .eloc .. | .eref .. => .undef
    | x => x
def adoptL (t : Nat) (L : Loc) : List (Nat × Blk) → Loc
  | [] => L
  | (i, b) :: os => adoptL t (upd L (t * 4 + i) (.live b)) os

section
variable {F F' : Nat → Prop} {N : Nat} {pn : Option (Nat × Nat)} {Tg Tg' : AV → Value → Prop} {w0 w w' : World} {sh : Sh} {m m' : Mp} {L L' : Loc} {fr : Fr} {a : Act} {P : Program}

theorem ofCell_sound (v : Value) : VR F Tg w m L (ofCell v) v := by
  unfold ofCell
  split
  · simp [VR]
  · simp [VR]
  · split
    · rename_i h; simp only [VR]; exact ⟨_, rfl, Fl.canon h⟩
    · simp [VR]
  · split
    · rename_i h; simp only [VR]; exact ⟨_, _, rfl, Fl.canon h.1, Fl.canon h.2⟩
    · simp [VR]
  · simp [VR]
  · simp [VR]
theorem ofCells_sound : ∀ (vs : List Value), VRs F Tg w m L (vs.map ofCell) vs
  | [] => by simp [VRs]
  | v :: vs => by simp only [List.map_cons, VRs]; exact ⟨v, vs, rfl, ofCell_sound v, ofCells_sound vs⟩
theorem ofConst_sound (v : Value) : VR F Tg w m L (ofConst v) v := by
  unfold ofConst
  split
  · simp only [VR]; exact ⟨_, rfl, ofCells_sound _⟩
  · exact ofCell_sound v
theorem Rel.ev (h : Rel F Tg pn N w0 sh m fr L a w) (x : Operand) : VR F Tg w m L (evA fr x) (a.eval x) := by
  cases x with
  | tmp t => exact h.tmps t
  | const v => exact ofConst_sound v
  | func f => simp only [evA, Act.eval, VR]; exact ⟨#[], rfl, by simp [VRs]⟩
  | global g => simp [evA, VR]
theorem Rel.evs (h : Rel F Tg pn N w0 sh m fr L a w) : ∀ (xs : List Operand), VRs F Tg w m L (xs.map (evA fr)) (xs.map a.eval)
  | [] => by simp [VRs]
  | x :: xs => by simp only [List.map_cons, VRs]; exact ⟨_, _, rfl, h.ev x, h.evs xs⟩

theorem VR.pl {x : AV} {v : Value} {w' : World} {m' : Mp} {L' : Loc} (h : VR F Tg w m L x v) : VR F' Tg' w' m' L' (pl x) v := by
  unfold Bx.pl; split
  · rename_i hp; exact h.of_plain hp
  · simp [VR]
theorem VRs.map {f : AV → AV} {m' : Mp} {L' : Loc} (hf : ∀ x v, VR F Tg w m L x v → VR F' Tg' w' m' L' (f x) v) :
    ∀ {xs : List AV} {vs : List Value}, VRs F Tg w m L xs vs → VRs F' Tg' w' m' L' (xs.map f) vs
  | [], _, h => by simpa [VRs] using h
  | x :: xs, _, h => by
    simp only [VRs, List.map_cons] at h ⊢
    obtain ⟨v, vs', rfl, h1, h2⟩ := h
    exact ⟨v, vs', rfl, hf _ _ h1, h2.map hf⟩
theorem VRat.map {f : AV → AV} {m' : Mp} {L' : Loc} (hf : ∀ x v, VR F Tg w m L x v → VR F' Tg' w m' L' (f x) v) :
    ∀ {xs : List AV} {b off : Nat}, VRat F Tg w m L xs b off → VRat F' Tg' w m' L' (xs.map f) b off
  | [], _, _, _ => by simp [VRat]
  | x :: xs, b, off, h => by
    simp only [VRat, List.map_cons] at h ⊢
    obtain ⟨⟨c, hc, h1⟩, h2⟩ := h
    exact ⟨⟨c, hc, hf _ _ h1⟩, h2.map hf⟩
theorem VRs.set : ∀ {xs : List AV} {vs : List Value} (i : Nat) {x : AV} {v : Value}, VRs F Tg w m L xs vs → VR F Tg w m L x v → VRs F Tg w m L (xs.set i x) (vs.set i v)
  | [], vs, i, _, _, h, _ => by simp [VRs] at h; subst h; simp [VRs]
  | y :: ys, _, i, x, v, h, hx => by
    simp only [VRs] at h
    obtain ⟨u, us, rfl, h1, h2⟩ := h
    cases i with
    | zero => simp only [List.set_cons_zero, VRs]; exact ⟨v, us, rfl, hx, h2⟩
    | succ i => simp only [List.set_cons_succ, VRs]; exact ⟨u, _, rfl, h1, h2.set i hx⟩

theorem coNil_sound {T : TypeId} {v : Value} (h : VR F Tg w m L .nil v) : VR F Tg w m L (coNil P T) v := by
  simp only [VR] at h
  subst h
  unfold coNil
  split
  · split <;> simp [VR]
  · simp [VR]
theorem coCells_sound : ∀ (fs : List Field) {cells : List AV} {vs : List Value}, VRs F Tg w m L cells vs → VRs F Tg w m L (coCells P fs cells) vs
  | [], _, _, h => h
  | f :: fs, cells, vs, h => by
    unfold coCells
    split
    · rename_i hx
      refine coCells_sound fs ?_
      obtain ⟨v, hv, hr⟩ := h.get hx
      have := h.set f.offset (coNil_sound (P := P) (T := f.type) hr)
      have e : vs.set f.offset v = vs := by
        obtain ⟨hlt, rfl⟩ := List.getElem?_eq_some_iff.1 hv
        exact List.set_getElem_self hlt
      rwa [e] at this
    · exact coCells_sound fs h
theorem coA_sound {T : TypeId} {x : AV} {v : Value} (h : VR F Tg w m L x v) : VR F Tg w m L (coA P T x) v := by
  unfold coA
  split
  · exact coNil_sound h
  · split
    · exact h
    · split
      · simp only [VR] at h ⊢
        obtain ⟨cs, e, hc⟩ := h
        exact ⟨cs, e, coCells_sound _ hc⟩
      · exact h
  · exact h

theorem VRpre.at {xs : List AV} {c : Array Value} {t : TypeId} {b : Nat} (hb : w.heap[b]? = some (.cells c t (0, 0))) (h : VRpre F Tg w m L xs c.toList) : VRat F Tg w m L xs b 0 :=
  VRat.of_get fun i x hx => by
    obtain ⟨v, hv, hr⟩ := h.get hx
    refine ⟨v, ?_, hr⟩
    simp only [World.cell?, hb]
    simpa using hv
theorem RowsAt.row {r : RK} {xs : List r.T} {b off i : Nat} (h : RowsAt w r xs b off) (hi : i < xs.length) (j : Nat) : VRat F Tg w m L ((r.enc (xs.getD i r.z)).drop j) b (off + (i * r.w + j)) :=
  VRat.of_get fun q x hx => by
    rw [List.getElem?_drop] at hx
    have hlt : j + q < r.w := by
      rw [← r.enc_len (xs.getD i r.z)]
      exact (List.getElem?_eq_some_iff.1 hx).1
    have he : xs.getD i r.z = xs[i] := by rw [List.getD_eq_getElem?_getD, List.getElem?_eq_getElem hi]; rfl
    rw [he, ← rowsA_get r xs i (j + q) hi hlt] at hx
    obtain ⟨c, hc, hs⟩ := h _ _ hx
    exact ⟨c, by rw [show off + (i * r.w + j) + q = off + (i * r.w + (j + q)) by omega]; exact hc, hs.vr⟩
/-- 'L' holds whatever 'L1' holds of what is there already. -/
def Ext (L1 L : Loc) : Prop := ∀ k b, L1 k = .live b → L k ≠ .free → L k = .live b
theorem Ext.refl : Ext L L := fun _ _ h _ => h
/-- What a caller tells its callee of a reference's name. -/
def tgOf (F : Nat → Prop) (Tg : AV → Value → Prop) (w : World) (m : Mp) (L : Loc) : AV → Value → Prop := VR F Tg w m L
theorem tagged_of {x : AV} {v : Value} (h : VR F Tg w m L x v) : tagged (tgOf F Tg w m L) x v := by
  unfold tagged; split
  · trivial
  · exact h
theorem of_tagged {x : AV} {v : Value} (h : tagged (tgOf F Tg w m L) x v) : VR F Tg w m L x v := by
  cases x <;> first | exact h | simp [VR]
/-- 'G': what the callee takes for foreign: whatever is not lent to it. -/
theorem fz_sound (h : HP F Tg w m L) {G : Nat → Prop} {K : Nat → Prop} (hF : ∀ b, F b → G b) (hK : ∀ k b, K k → L k = .live b → b.has → G (m k).1) {L1 : Loc} (hx : Ext L1 L) (hL1 : ∀ k b, L1 k = .live b → K k) {m' : Mp} {L' : Loc} :
    ∀ (n : Nat) (x : AV) (v : Value), VR F Tg w m L x v → VR G (tgOf F Tg w m L) w m' L' (fz n L1 x) v
  | 0, x, v, hv => hv.pl
  | n + 1, x, v, hv => by
    have htag : tagged (tgOf F Tg w m L) x v := tagged_of hv
    cases x with
    | loc k off =>
      simp only [fz]
      split
      · rename_i cells hc
        simp only [VR] at hv ⊢
        have hL := hx k _ hc hv.1
        obtain ⟨_, c, t, h2, h3, h4⟩ := h k _ hL trivial
        refine ⟨htag, (m k).1, off, hv.2 _ hL, hK k _ (hL1 k _ hc) hL trivial, ?_⟩
        have := (h4.at h2).drop off
        rw [Nat.zero_add] at this
        exact this.map (fz_sound h hF hK hx hL1 n)
      · simp [VR]
    | eloc k i j =>
      simp only [fz]
      split
      · rename_i r xs hc
        simp only [VR] at hv ⊢
        have hL := hx k _ hc hv.1
        obtain ⟨e, hi, hj⟩ := hv.2 _ _ hL
        have hhas : (Blk.tab r xs).has := fun e => by rw [e] at hi; simp at hi
        obtain ⟨_, c, t, h2, h3, h4⟩ := h k _ hL hhas
        have := (h4.rows.at h2).row (F := G) (Tg := tgOf F Tg w m L) (m := m') (L := L') hi j
        rw [Nat.zero_add] at this
        exact ⟨htag, (m k).1, _, e, hK k _ (hL1 k _ hc) hL hhas, this⟩
      · simp [VR]
    | osl k =>
      simp only [fz]
      split
      · rename_i r xs hc
        simp only [VR] at hv ⊢
        have hL := hx k _ hc hv.1
        rcases hv.2 _ _ hL with ⟨e, b, e'⟩ | ⟨hhas, cap, e, h5, _⟩
        · exact ⟨htag, .inl ⟨b, e', e⟩⟩
        · obtain ⟨_, c, t, h2, h3, h4⟩ := h k _ hL hhas
          exact ⟨htag, .inr ⟨(m k).1, 0, cap, e, h5, hK k _ (hL1 k _ hc) hL hhas, h4.rows.at h2⟩⟩
      · simp [VR]
    | emp r =>
      simp only [fz, VR] at hv ⊢
      obtain ⟨b, e⟩ := hv
      exact ⟨htag, .inl ⟨b, e, trivial⟩⟩
    | ref cells t =>
      simp only [fz, VR] at hv ⊢
      obtain ⟨ht, b, off, e, hb, hc⟩ := hv
      exact ⟨htag, b, off, e, hF b hb, hc.map (fz_sound h hF hK hx hL1 n)⟩
    | sli r xs t =>
      simp only [fz, VR] at hv ⊢
      obtain ⟨ht, hv⟩ := hv
      refine ⟨htag, ?_⟩
      rcases hv with hv | ⟨b, off, cap, ev, hle, hb, hc⟩
      · exact .inl hv
      · exact .inr ⟨b, off, cap, ev, hle, hF b hb, hc⟩
    | eref r xs i j =>
      simp only [fz, VR] at hv ⊢
      obtain ⟨hi, hj, b, off, e, hb, hc⟩ := hv
      exact ⟨htag, b, _, e, hF b hb, hc.row hi j⟩
    | agg cells =>
      simp only [fz, VR] at hv ⊢
      obtain ⟨cs, e, hc⟩ := hv
      exact ⟨cs, e, hc.map (fz_sound h hF hK hx hL1 n)⟩
    | tup vs =>
      simp only [fz, VR] at hv ⊢
      obtain ⟨cs, e, hc⟩ := hv
      exact ⟨cs, e, hc.map (fz_sound h hF hK hx hL1 n)⟩
    | fn f caps =>
      simp only [fz, VR] at hv ⊢
      obtain ⟨cs, e, hc⟩ := hv
      exact ⟨cs, e, hc.map (fz_sound h hF hK hx hL1 n)⟩
    | own i r xs => simp [fz, VR]
    | undef => simp [fz, VR]
    | skip => simp only [fz, VR] at hv ⊢; exact hv
    | bool b => simp only [fz, VR] at hv ⊢; exact hv
    | int k n => simp only [fz, VR] at hv ⊢; exact hv
    | flt k x => simp only [fz, VR] at hv ⊢; exact hv
    | fbits x => simp only [fz, VR] at hv ⊢; exact hv
    | cpx k x y => simp only [fz, VR] at hv ⊢; exact hv
    | nil => simp only [fz, VR] at hv ⊢; exact hv
end

mutual
/-- What a function hands back: a new slice lies in a block that was not there; a reference of the caller's is the one that he named. -/
def RV (B : Nat) (Tg : AV → Value → Prop) (w : World) (mr : Mp) : AV → Value → Prop
  | .own i r xs, v => (xs = [] ∧ ∃ b, v = .slice b 0 0) ∨ (xs ≠ [] ∧ B ≤ (mr i).1 ∧ (∃ c t, w.heap[(mr i).1]? = some (.cells c t (0, 0)) ∧ c.size = (mr i).2 ∧ RowsIn r xs c.toList) ∧
      ∃ cap, v = .slice (some ⟨(mr i).1, 0, none⟩) xs.length cap ∧ xs.length ≤ cap ∧ cap * r.w ≤ (mr i).2)
  | .ref _ t, v => tagged Tg t v
  | .sli _ _ t, v => tagged Tg t v
  | .loc .., _ => True
  | .osl .., _ => True
  | .eloc .., _ => True
  | .eref .., _ => True
  | .undef, _ => True
  | .skip, v => v = Go.undef
  | .bool b, v => v = .bool b
  | .int k n, v => v = .int k n
  | .flt k x, v => ∃ b, v = .float k b ∧ Fl k b x
  | .fbits x, v => ∃ b : Nat, v = .int .u64 b ∧ Fl .f64 b x
  | .cpx k x y, v => ∃ a b, v = .complex k a b ∧ Fl k a x ∧ Fl k b y
  | .nil, v => v = .slice none 0 0
  | .emp _, v => ∃ b, v = .slice b 0 0
  | .agg cells, v => ∃ cs : Array Value, v = .agg cs ∧ RVs B Tg w mr cells cs.toList
  | .tup vs, v => ∃ cs : Array Value, v = .tuple cs ∧ RVs B Tg w mr vs cs.toList
  | .fn f caps, v => ∃ cs : Array Value, v = .func (.func f) #[] cs ∧ RVs B Tg w mr caps cs.toList
def RVs (B : Nat) (Tg : AV → Value → Prop) (w : World) (mr : Mp) : List AV → List Value → Prop
  | [], vs => vs = []
  | x :: xs, vs => ∃ v vs', vs = v :: vs' ∧ RV B Tg w mr x v ∧ RVs B Tg w mr xs vs'
end

/-- A call of function 'f', whether it has a body or not. -/
def Invokes (P : Program) (f : FuncId) (args : Array Value) (w : World) (R : Value → World → Prop) : Prop :=
  match (callFunc f args).run P w with
  | .ok (.enter g as) w1 => Calls P g as w1 fun e w' => ∃ v, e = .returned v ∧ R v w'
  | .ok (.value v) w' => R v w'
  | _ => False
theorem Invokes.mono {P : Program} {f : FuncId} {args : Array Value} {w : World} {R R' : Value → World → Prop} (h : Invokes P f args w R) (hR : ∀ v w', R v w' → R' v w') : Invokes P f args w R' := by
  unfold Invokes at h ⊢
  generalize (callFunc f args).run P w = res at h ⊢
  cases res with
  | halt h' w' => simp at h
  | ok n w1 =>
    cases n <;> simp only at h ⊢
    case value v => exact hR v w1 h
    case enter g as => exact h.mono fun e w' ⟨v, he, hr⟩ => ⟨v, he, hR v w' hr⟩

def L0 : Loc := fun _ => .free
/-- WHAT A FUNCTION DOES: called with 'args' it hands back 'r', and of what there was nothing has turned. -/
def Does (P : Program) (f : FuncId) (args : List AV) (r : AV) : Prop :=
  ∀ (Tg : AV → Value → Prop) (w : World) (m : Mp) (cargs : Array Value), VRs (fun b => b < w.heap.size) Tg w m L0 args cargs.toList →
    Invokes P f cargs w fun v w' => Below w.heap.size w w' ∧ ∃ mr, RV w.heap.size Tg w' mr r v ∧
      ∀ p q, p ∈ owns 4 r → p.2.has → q ∈ owns 4 r → q.2.has → (mr p.1).1 = (mr q.1).1 → p.1 = q.1
/-- WHAT A FUNCTION DOES THAT WRITES INTO ONE SLICE OF ITS CALLER'S. -/
def DoesM (P : Program) (f : FuncId) (args : List AV) (r : RK) (xs : List r.T) (y : AV) (ys : List r.T) : Prop :=
  ∀ (Tg : AV → Value → Prop) (w : World) (m : Mp) (cargs : Array Value) (c : Array Value) (t : TypeId), (xs ≠ [] → w.heap[(m LK).1]? = some (.cells c t (0, 0)) ∧ c.size = (m LK).2 ∧ RowsIn r xs c.toList) →
    VRs (fun b => b < w.heap.size ∧ (xs ≠ [] → b ≠ (m LK).1)) Tg w m (upd L0 LK (.live (.tab r xs))) args cargs.toList →
    Invokes P f cargs w fun v w' => Kept (fun b => b < w.heap.size ∧ (xs ≠ [] → b ≠ (m LK).1)) w w' ∧ SV y v ∧
      (xs ≠ [] → ∃ c' t', w'.heap[(m LK).1]? = some (.cells c' t' (0, 0)) ∧ c'.size = c.size ∧ RowsIn r ys c'.toList)

section
variable {F : Nat → Prop} {B0 N : Nat} {pn : Option (Nat × Nat)} {Tg Tg' : AV → Value → Prop} {w0 w w' : World} {sh : Sh} {m m' mr : Mp} {L L' : Loc} {fr : Fr} {a : Act}

/-- A block that a result holds. -/
def Block (B0 : Nat) (w : World) (mr : Mp) (p : Nat × Blk) : Prop :=
  (∃ r, p.2 = .tab r []) ∨ (p.2.has ∧ B0 ≤ (mr p.1).1 ∧ ∃ c t, w.heap[(mr p.1).1]? = some (.cells c t (0, 0)) ∧ c.size = (mr p.1).2 ∧ ∃ r xs, p.2 = .tab r xs ∧ RowsIn r xs c.toList)

mutual
theorem owns_block : ∀ (n : Nat) (x : AV) (v : Value), RV B0 Tg w mr x v → ∀ p ∈ owns n x, Block B0 w mr p
  | 0, _, _, _, p, hp => by simp [owns] at hp
  | n + 1, x, v, h, p, hp => by
    unfold owns at hp
    split at hp
    · simp at hp; subst hp
      simp only [RV] at h
      rcases h with ⟨rfl, _⟩ | ⟨hne, h2, ⟨c, t, h3, h4, h5⟩, _⟩
      · exact .inl ⟨_, rfl⟩
      · exact .inr ⟨hne, h2, c, t, h3, h4, _, _, rfl, h5⟩
    · simp only [RV] at h
      obtain ⟨cs, _, hc⟩ := h
      exact owns_blocks n _ _ hc p hp
    · simp only [RV] at h
      obtain ⟨cs, _, hc⟩ := h
      exact owns_blocks n _ _ hc p hp
    · simp at hp
theorem owns_blocks : ∀ (n : Nat) (xs : List AV) (vs : List Value), RVs B0 Tg w mr xs vs → ∀ p ∈ xs.flatMap (owns n), Block B0 w mr p
  | n, [], _, _, p, hp => by simp at hp
  | n, x :: xs, _, h, p, hp => by
    simp only [RVs] at h
    obtain ⟨v, vs', rfl, h1, h2⟩ := h
    simp only [List.flatMap_cons, List.mem_append] at hp
    rcases hp with hp | hp
    · exact owns_block n x v h1 p hp
    · exact owns_blocks n xs vs' h2 p hp
end

theorem adoptL_cons (t : Nat) (L : Loc) (i : Nat) (b : Blk) (os : List (Nat × Blk)) :
    adoptL t L ((i, b) :: os) = adoptL t (upd L (t * 4 + i) (.live b)) os := rfl
theorem adoptL_other (t k : Nat) : ∀ (os : List (Nat × Blk)) (L : Loc), (∀ p ∈ os, t * 4 + p.1 ≠ k) → adoptL t L os k = L k
  | [], _, _ => rfl
  | (i, b) :: os, L, h => by
    rw [adoptL_cons, adoptL_other t k os _ fun p hp => h p (by simp [hp])]
    exact upd_ne _ _ (fun e => h (i, b) (by simp) e.symm)

/-- Taking over the blocks of a result. -/
theorem Rel.adopt (t : Nat) (hB : ∀ b, F b → b < B0) : ∀ (os : List (Nat × Blk)) {L : Loc} {m : Mp}, Rel F Tg pn N w0 sh m fr L a w → (os.map (·.1)).Nodup → (∀ p ∈ os, L (t * 4 + p.1) = .free) → (∀ p ∈ os, t * 4 + p.1 ≠ LK) →
    (∀ p ∈ os, Block B0 w mr p) → (∀ p q, p ∈ os → p.2.has → q ∈ os → q.2.has → (mr p.1).1 = (mr q.1).1 → p.1 = q.1) →
    (∀ k c, L k = .live c → c.has → (∀ p ∈ os, p.2.has → (m k).1 ≠ (mr p.1).1)) →
    ∃ m', Rel F Tg pn N w0 sh m' fr (adoptL t L os) a w ∧ Keeps F w w m m' L (adoptL t L os) ∧ ∀ p ∈ os, p.2.has → m' (t * 4 + p.1) = mr p.1
  | [], L, m, h, _, _, _, _, _, _ => ⟨m, h, .refl, by simp⟩
  | (i, b) :: os, L, m, h, hnd, hfr, hLK, hbl, hinj, hfree => by
    simp only [List.map_cons, List.nodup_cons] at hnd
    have hf0 := hfr (i, b) (by simp)
    simp only at hf0
    have hLK0 : t * 4 + i ≠ LK := hLK (i, b) (by simp)
    have hne : ∀ p ∈ os, t * 4 + p.1 ≠ t * 4 + i := fun p hp e' => hnd.1 (by
      have : i = p.1 := by omega
      exact this ▸ List.mem_map_of_mem hp)
    have hother := adoptL_other t (t * 4 + i) os (upd L (t * 4 + i) (.live b)) hne
    have hlive : adoptL t (upd L (t * 4 + i) (.live b)) os (t * 4 + i) = .live b := by rw [hother, upd_same]
    rcases hbl (i, b) (by simp) with ⟨r, hbt⟩ | ⟨hhas, hge, c, ty, hb, hs, r, xs, hbt, hv⟩
    · simp only at hbt
      subst hbt
      have h1 := h.newEmpty hf0 hLK0 r
      have hk : Keeps F w w m m L (upd L (t * 4 + i) (.live (.tab r []))) := by
        have := Keeps.fresh (F := F) (w := w) (m := m) hf0 (m (t * 4 + i)) (.live (.tab r [])) (by simp)
        rwa [upd_self] at this
      obtain ⟨m', h2, h3, h4⟩ := Rel.adopt t hB os h1 hnd.2 (fun p hp => by rw [upd_ne _ _ (hne p hp)]; exact hfr p (by simp [hp])) (fun p hp => hLK p (by simp [hp])) (fun p hp => hbl p (by simp [hp])) (fun p q hp h1 hq h2 => hinj p q (by simp [hp]) h1 (by simp [hq]) h2) (by
        intro k c' hc' hh p hp hph
        by_cases hk : k = t * 4 + i
        · rw [hk, upd_same] at hc'; cases hc'; exact absurd rfl hh
        · rw [upd_ne _ _ hk] at hc'
          exact hfree k c' hc' hh p (by simp [hp]) hph)
      refine ⟨m', h2, hk.trans h3, fun p hp hph => ?_⟩
      rcases List.mem_cons.1 hp with rfl | hp
      · exact absurd rfl hph
      · exact h4 p hp hph
    · simp only at hbt hge hb hs hhas
      subst hbt
      have e : mr i = ((mr i).1, c.size) := by rw [hs]
      have hFb : ¬ F (mr i).1 := fun hF => absurd (hB _ hF) (by omega)
      have h1 : Rel F Tg pn N w0 sh (upd m (t * 4 + i) ((mr i).1, c.size)) fr (upd L (t * 4 + i) (.live (.tab r xs))) a w :=
        h.new hf0 hLK0 (mr i).1 (.tab r xs) c ty hb hFb (fun k' c' hc' hh' _ e => absurd e (hfree k' c' hc' hh' (i, .tab r xs) (by simp) hhas)) hv.pre
      have hk : Keeps F w w m (upd m (t * 4 + i) ((mr i).1, c.size)) L (upd L (t * 4 + i) (.live (.tab r xs))) := .fresh hf0 _ _ (by simp)
      obtain ⟨m', h2, h3, h4⟩ := Rel.adopt t hB os h1 hnd.2 (fun p hp => by rw [upd_ne _ _ (hne p hp)]; exact hfr p (by simp [hp])) (fun p hp => hLK p (by simp [hp])) (fun p hp => hbl p (by simp [hp])) (fun p q hp h1 hq h2 => hinj p q (by simp [hp]) h1 (by simp [hq]) h2) (by
        intro k c' hc' hh p hp hph
        by_cases hk : k = t * 4 + i
        · rw [hk, upd_same]
          intro e'
          have : i = p.1 := hinj (i, .tab r xs) p (by simp) hhas (by simp [hp]) hph e'
          exact hnd.1 (this ▸ List.mem_map_of_mem hp)
        · rw [upd_ne _ _ hk] at hc' ⊢
          exact hfree k c' hc' hh p (by simp [hp]) hph)
      refine ⟨m', h2, hk.trans h3, fun p hp hph => ?_⟩
      rcases List.mem_cons.1 hp with rfl | hp
      · obtain ⟨_, _, hpl, _⟩ := h3.place (t * 4 + i) _ (by rw [upd_same]; simp) hlive
        rw [hpl, upd_same, ← e]
      · exact h4 p hp hph

mutual
theorem imp_sound (t : Nat) (hk : Keeps F w w' m m' L L') (hnf : ∀ k b, L' k = .live b → L' k ≠ .free) : ∀ (n : Nat) (x : AV) (v : Value), RV B0 (tgOf F Tg w m L) w' mr x v → (∀ p ∈ owns n x, (p.2.has → m' (t * 4 + p.1) = mr p.1) ∧ L' (t * 4 + p.1) = .live p.2) → VR F Tg w' m' L' (imp n t x) v
  | 0, x, v, h, _ => by
    simp only [imp, pl]
    split
    · rename_i hp
      cases x <;> simp [plain] at hp <;> (simp only [RV, VR] at h ⊢; try exact h)
    · simp [VR]
  | n + 1, x, v, h, ho => by
    cases x with
    | own i r xs =>
      obtain ⟨hm, hl⟩ := ho (i, .tab r xs) (by simp [owns])
      simp only [RV, imp, VR] at h ⊢ hm hl
      refine ⟨by rw [hl]; simp, fun r' ys hy => ?_⟩
      rw [hl] at hy
      cases hy
      rcases h with ⟨e, g⟩ | ⟨hne, _, _, cap, hv, h1, h2⟩
      · exact .inl ⟨e, g⟩
      · exact .inr ⟨hne, cap, by rw [hm hne]; exact hv, h1, by rw [hm hne]; exact h2⟩
    | ref cells t' => simp only [RV, imp] at h ⊢; exact (of_tagged h).keep hk
    | sli r xs t' => simp only [RV, imp] at h ⊢; exact (of_tagged h).keep hk
    | agg cells =>
      simp only [RV, imp, VR] at h ⊢
      obtain ⟨cs, e, hc⟩ := h
      exact ⟨cs, e, imps_sound t hk hnf n _ _ hc (by simpa [owns] using ho)⟩
    | tup vs =>
      simp only [RV, imp, VR] at h ⊢
      obtain ⟨cs, e, hc⟩ := h
      exact ⟨cs, e, imps_sound t hk hnf n _ _ hc (by simpa [owns] using ho)⟩
    | fn f caps =>
      simp only [RV, imp, VR] at h ⊢
      obtain ⟨cs, e, hc⟩ := h
      exact ⟨cs, e, imps_sound' _ _ hc⟩
    | loc k off => simp [imp, VR]
    | osl k => simp [imp, VR]
    | eloc k i j => simp [imp, VR]
    | eref r xs i j => simp [imp, VR]
    | undef => simp [imp, VR]
    | skip => simp only [RV, imp, VR] at h ⊢; exact h
    | bool b => simp only [RV, imp, VR] at h ⊢; exact h
    | int k n => simp only [RV, imp, VR] at h ⊢; exact h
    | flt k x => simp only [RV, imp, VR] at h ⊢; exact h
    | fbits x => simp only [RV, imp, VR] at h ⊢; exact h
    | cpx k x y => simp only [RV, imp, VR] at h ⊢; exact h
    | nil => simp only [RV, imp, VR] at h ⊢; exact h
    | emp r => simp only [RV, imp, VR] at h ⊢; exact h
theorem imps_sound (t : Nat) (hk : Keeps F w w' m m' L L') (hnf : ∀ k b, L' k = .live b → L' k ≠ .free) : ∀ (n : Nat) (xs : List AV) (vs : List Value), RVs B0 (tgOf F Tg w m L) w' mr xs vs → (∀ p ∈ xs.flatMap (owns n), (p.2.has → m' (t * 4 + p.1) = mr p.1) ∧ L' (t * 4 + p.1) = .live p.2) → VRs F Tg w' m' L' (xs.map (imp n t)) vs
  | _, [], _, h, _ => by simpa [RVs, VRs] using h
  | n, x :: xs, _, h, ho => by
    simp only [RVs, List.map_cons, VRs] at h ⊢
    obtain ⟨v, vs', rfl, h1, h2⟩ := h
    exact ⟨v, vs', rfl, imp_sound t hk hnf n x v h1 (fun p hp => ho p (by simp only [List.flatMap_cons, List.mem_append]; exact .inl hp)), imps_sound t hk hnf n xs vs' h2 (fun p hp => ho p (by simp only [List.flatMap_cons, List.mem_append]; exact .inr hp))⟩
theorem imps_sound' : ∀ (xs : List AV) (vs : List Value), RVs B0 (tgOf F Tg w m L) w' mr xs vs → VRs F Tg w' m' L' (xs.map fun _ => AV.undef) vs
  | [], _, h => by simpa [RVs, VRs] using h
  | x :: xs, _, h => by
    simp only [RVs, List.map_cons, VRs] at h ⊢
    obtain ⟨v, vs', rfl, h1, h2⟩ := h
    exact ⟨v, vs', rfl, by simp [VR], imps_sound' xs vs' h2⟩
end
end
end Go.Bx
