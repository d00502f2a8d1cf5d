/- The executor: one operation. -/
import Derived.Test.YtkjdcbgliekjnaaAxT
namespace Go.Ax
open Go.RowKit (Below)

/-- 'if b': by computation where b is known. -/
def br (b : Bool) (A B : Prop) : Prop := @Bool.rec (fun _ => Prop) B A b
theorem br_intro {b : Bool} {A B : Prop} (h1 : b = true → A) (h2 : b = false → B) : @Bool.rec (fun _ => Prop) B A b := by
  cases b
  · exact h2 rfl
  · exact h1 rfl
theorem br_elim {b : Bool} {A B : Prop} (h : br b A B) : (b = true → A) ∧ (b = false → B) := by
  cases b
  · exact ⟨fun h => (by cases h), fun _ => h⟩
  · exact ⟨fun _ => h, fun h => (by cases h)⟩
def nodupB : List Nat → Bool
  | [] => true
  | x :: xs => Nat.blt x 4 && !(xs.contains x) && nodupB xs
theorem nodupB_spec : ∀ {xs : List Nat}, nodupB xs = true → xs.Nodup
  | [], _ => by simp
  | x :: xs, h => by
    simp only [nodupB, Bool.and_eq_true, Bool.not_eq_true'] at h
    rw [List.nodup_cons]
    exact ⟨by simpa using h.1.2, nodupB_spec h.2⟩
theorem nodupB_lt : ∀ {xs : List Nat}, nodupB xs = true → ∀ x ∈ xs, x < 4
  | [], _, x, hx => by cases hx
  | y :: xs, h, x, hx => by
    simp only [nodupB, Bool.and_eq_true, Nat.blt_eq] at h
    rcases List.mem_cons.1 hx with rfl | hx
    · exact h.1.1
    · exact nodupB_lt h.2 x hx
/-- A call: what it hands back. -/
def callA (X : Cx) (t : Nat) (L : Loc) (f : FuncId) (args : List AV) (K : AV → List (Nat × List AV) → Prop) : Prop :=
  match X.cs.contains f, X.env f (args.map (fz 4 L)) with
  | true, some r => match nodupB ((owns 4 r).map (·.1)) with
    | true => K (imp 4 t (adoptL t L (owns 4 r)) r) (owns 4 r)
    | false => False
  | _, _ => False
def builtinA (X : Cx) (L : Loc) (b : Builtin) (ats : Array TypeId) (args : List AV) (K : AV → List (Nat × List AV) → Prop) : Prop :=
  match b, args with
  | .len, [x] => match ats[0]? with
    | some T => match X.P.underlying T, lenA L x with
      | some (.slice _), some n => K (.int .i64 n) []
      | _, _ => False
    | none => False
  | .real, [.cpx k x _] => K (.flt k x) []
  | .imag, [.cpx k _ y] => K (.flt k y) []
  | .complex, [.flt k x, .flt k' y] => k = k' ∧ K (.cpx k x y) []
  | .max, [.flt k x, .flt k' y] => k = k' ∧ K (.flt k (fmaxA k x y)) []
  | _, _ => False
/-- An operation that writes nothing that was there: its value, and the blocks that it makes. -/
def qOp (X : Cx) (L : Loc) (o : Oper) (fr : Fr) (K : AV → List (Nat × List AV) → Prop) : Prop :=
  match o.op with
  | .move x | .assign x => K (evA fr x) []
  | .pick c a b => match evA fr c with
    | .bool p => br p (K (evA fr a) []) (K (evA fr b) [])
    | _ => False
  | .alloc T => match zeroOf X.P T with
    | some z => K (.loc (o.dst.getD 0 * 4 + 0) ((L (o.dst.getD 0 * 4 + 0)).1 + 1) 0) [(0, z.cells.toList.map ofCell)]
    | none => False
  | .box _ x => match livesA L (evA fr x), cellsA (evA fr x) with
    | true, some cs => K (.loc (o.dst.getD 0 * 4 + 0) ((L (o.dst.getD 0 * 4 + 0)).1 + 1) 0) [(0, cs)]
    | _, _ => False
  | .build T parts => match zeroOf X.P T, X.P.underlying T with
    | some z, some (.struct fields) => match placesA X.P fields.toList with
      | some ps => match (parts.toList.map (·.2)).all (fun x => livesA L (evA fr x)), fillA (ps[·]?) (z.cells.toList.map ofCell) (parts.toList.map fun p => (p.1, evA fr p.2)) with
        | true, some cs => K (.agg cs) []
        | _, _ => False
      | none => False
    | some z, some (.array _ elem) => match szOf X.P elem with
      | some e => match (parts.toList.map (·.2)).all (fun x => livesA L (evA fr x)), fillA (fun i => some (i * e, e)) (z.cells.toList.map ofCell) (parts.toList.map fun p => (p.1, evA fr p.2)) with
        | true, some cs => K (.agg cs) []
        | _, _ => False
      | none => False
    | _, _ => False
  | .buildSlice T len parts => match X.P.underlying T with
    | some (.slice elem) => match szOf X.P elem, zeroOf X.P elem with
      | some e, some z => if len = 0 ∧ parts.size = 0 then K .nilsl [] else
        if 1 ≤ len * e ∧ len * e ≤ 65536 then (match (parts.toList.map (·.2)).all (fun x => livesA L (evA fr x)), fillA (fun i => some (i * e, e)) (zerosA z (len * e)) (parts.toList.map fun p => (p.1, evA fr p.2)) with
        | true, some cs => K (.lsl (o.dst.getD 0 * 4 + 0) ((L (o.dst.getD 0 * 4 + 0)).1 + 1) 0 len e) [(0, cs)]
        | _, _ => False) else False
      | _, _ => False
    | _ => False
  | .load T x => match ldA X.P L T (evA fr x) with
    | some y => K y []
    | none => False
  | .nilCheck x => match ptrA L (evA fr x) with
    | true => K (evA fr x) []
    | false => False
  | .binOp op T x y _ => match binA X.P op T (evA fr x) (evA fr y) with
    | some z => K z []
    | none => False
  | .unOp op _ x => match unA op (evA fr x) with
    | some z => K z []
    | none => False
  | .convert s d x => match cvA X.P s d (evA fr x) with
    | some z => K z []
    | none => False
  | .makeFunc (.func f) first caps => match first.toList with
    | [] => K (.fn f (caps.toList.map (evA fr))) []
    | _ => False
  | .makeSlice T l c => match X.P.underlying T, evA fr l, evA fr c with
    | some (.slice elem), .int .i64 n, .int .i64 n' => match szOf X.P elem, zeroOf X.P elem, (X.P.info? elem).map (·.bytes) with
      | some e, some z, some bytes => (0 ≤ n ∧ n ≤ n' ∧ n' ≤ 67108864) ∧ bytes ≤ 1024 ∧ K (.lsl (o.dst.getD 0 * 4 + 0) ((L (o.dst.getD 0 * 4 + 0)).1 + 1) 0 n.toNat e) [(0, zerosA z (n'.toNat * e))]
      | _, _, _ => False
    | _, _, _ => False
  | .fieldAddr S x f => match fieldA X.P L S (evA fr x) f with
    | some y => K y []
    | none => False
  | .field T x f => match fieldV X.P T (evA fr x) f with
    | some y => K y []
    | none => False
  | .indexAddr T x i => ixaA X.P L T (evA fr x) (evA fr i) fun y => K y []
  | .index T x i => ixvA X.P T (evA fr x) (evA fr i) fun y => K y []
  | .extract x i => match evA fr x with
    | .tup vs => match vs[i]? with
      | some y => K y []
      | none => False
    | _ => False
  | .call c => match c.callee with
    | .value x => match evA fr x with
      | .fn f caps => callA X (o.dst.getD 0) L f (c.args.toList.map (evA fr) ++ caps) K
      | _ => False
    | .builtin b => builtinA X L b c.argTypes (c.args.toList.map (evA fr)) K
    | _ => False
  | _ => False

section
variable {B B0 N : Nat} {Tg Tg' : AV → Value → Prop} {w0 w w' : World} {m m' mr : Mp} {L L' : Loc} {fr : Fr} {a : Act} {P : Program}

/-- What is known behind an operation of the value 'y' that makes the blocks 'os'. -/
def After (B : Nat) (Tg : AV → Value → Prop) (N : Nat) (w0 : World) (fr : Fr) (a : Act) (t : Nat) (L : Loc) (y : AV) (os : List (Nat × List AV)) (v : Value) (w' : World) : Prop :=
  ∃ m', Rel B Tg N w0 m' fr (adoptL t L os) a w' ∧ VR B Tg w' m' (adoptL t L os) y v

theorem After.same {t : Nat} {y : AV} {v : Value} (h : Rel B Tg N w0 m fr L a w) (hv : VR B Tg w m L y v) : After B Tg N w0 fr a t L y [] v w := ⟨m, h, hv⟩
theorem After.draw {t : Nat} {y : AV} {v : Value} {d : Nat} (h : Rel B Tg N w0 m fr L a w) (hv : VR B Tg w m L y v) : After B Tg N w0 fr a t L y [] v { w with drawn := d } :=
  ⟨m, h.world (Below.draw w d), hv.keep (Keeps.of_below ((Below.draw w d).mono h.base))⟩
theorem After.alloc {t : Nat} (h : Rel B Tg N w0 m fr L a w) {cells : List AV} {c : Array Value} (T : TypeId) (hc : VRs B Tg w m L cells c.toList) :
    After B Tg N w0 fr a t L (.loc (t * 4 + 0) ((L (t * 4 + 0)).1 + 1) 0) [(0, cells)] (.pointer (some ⟨w.heap.size, 0, none⟩)) (w.alloc (.cells c T)) :=
  ⟨_, h.alloc (t * 4 + 0) T hc, by simp [VR, adoptL]⟩
theorem After.allocSlice {t len cap e : Nat} (h : Rel B Tg N w0 m fr L a w) {cells : List AV} {c : Array Value} (T : TypeId) (hc : VRs B Tg w m L cells c.toList) (h1 : len ≤ cap) (h2 : cap * e ≤ c.size) :
    After B Tg N w0 fr a t L (.lsl (t * 4 + 0) ((L (t * 4 + 0)).1 + 1) 0 len e) [(0, cells)] (.slice (some ⟨w.heap.size, 0, none⟩) len cap) (w.alloc (.cells c T)) :=
  ⟨_, h.alloc (t * 4 + 0) T hc, by simp [VR, adoptL, h1, h2]⟩
theorem parts_of (h : Rel B Tg N w0 m fr L a w) {L1 : Loc} (hE : Ext L1 L) : ∀ (ps : List (Nat × Operand)), (ps.map (·.2)).all (fun x => livesA L1 (evA fr x)) = true → Parts B Tg w m L (ps.map fun p => (p.1, evA fr p.2)) (ps.map fun p => (p.1, a.eval p.2))
  | [], _ => by simp [Parts]
  | (i, x) :: ps, hl => by
    simp only [List.map_cons, List.all_cons, Bool.and_eq_true] at hl
    simp only [List.map_cons, Parts]
    exact ⟨_, _, rfl, h.ev x, hE.livesA (h.ev x) hl.1, parts_of h hE ps hl.2⟩

theorem callA_sound {X : Cx} (hG : ∀ f ∈ X.cs, Good X.P X.env f) (h : Rel B Tg N w0 m fr L a w) {L1 : Loc} (hE : Ext L1 L) {t : Nat} (ht : ∀ c, c < 4 → (L (t * 4 + c)).1 = (L1 (t * 4 + c)).1) {f : FuncId} {args : List AV} {cargs : Array Value}
    (hargs : VRs B Tg w m L args cargs.toList) {K : AV → List (Nat × List AV) → Prop} (hc : callA X t L1 f args K) :
    ∃ y os, K y os ∧ Invokes X.P f cargs w (After B Tg N w0 fr a t L y os) := by
  unfold callA at hc
  split at hc
  · rename_i r hcs hr
    split at hc
    case h_2 => exact hc.elim
    rename_i hnd
    have hlt := nodupB_lt hnd
    replace hnd := nodupB_spec hnd
    refine ⟨_, _, hc, ?_⟩
    have hf : f ∈ X.cs := by simpa using hcs
    have hd := hG f hf _ r hr (tgOf B Tg w m L) w m cargs (hargs.map fun x v hv => fz_sound h.heap h.base hE 4 x v hv)
    have key : ∀ v w', (Below w.heap.size w w' ∧ ∃ mr, RV w.heap.size (tgOf B Tg w m L) w' mr r v ∧ ∀ i j, i ∈ (owns 4 r).map (·.1) → j ∈ (owns 4 r).map (·.1) → (mr i).1 = (mr j).1 → i = j) →
        After B Tg N w0 fr a t L (imp 4 t (adoptL t L1 (owns 4 r)) r) (owns 4 r) v w' := by
      rintro v w' ⟨hb, mr, hrv, hinj⟩
      obtain ⟨m', h1, h2, h3⟩ := (h.world hb).adopt (B0 := w.heap.size) (mr := mr) t h.base (owns 4 r) hnd (owns_block 4 r v hrv) hinj (by
        intro k c hk p hp e
        have := h.heap.lt hk
        have := (owns_block 4 r v hrv p hp).2.1
        omega)
      refine ⟨m', h1, ?_⟩
      have hk : Keeps B w w' m m' L (adoptL t L (owns 4 r)) := (Keeps.of_below (hb.mono h.base)).trans h2
      have := imp_sound (t := t) hk 4 r v hrv h3
      have e : imp 4 t (adoptL t L1 (owns 4 r)) r = imp 4 t (adoptL t L (owns 4 r)) r := by
        have hgen : ∀ (os : List (Nat × List AV)) (L L1 : Loc), (∀ c, c < 4 → (L (t * 4 + c)).1 = (L1 (t * 4 + c)).1) → ∀ c, c < 4 → (adoptL t L os (t * 4 + c)).1 = (adoptL t L1 os (t * 4 + c)).1 := by
          intro os
          induction os with
          | nil => exact fun _ _ h => h
          | cons p os ih =>
            intro L L1 h
            obtain ⟨i, cells⟩ := p
            refine ih _ _ fun c hc => ?_
            by_cases hci : t * 4 + c = t * 4 + i
            · have : c = i := by omega
              rw [hci, upd_same, upd_same, h i (by omega)]
            · rw [upd_ne _ _ hci, upd_ne _ _ hci, h c hc]
        have : ∀ (n : Nat) (x : AV), (∀ p ∈ owns n x, p.1 < 4) → imp n t (adoptL t L1 (owns 4 r)) x = imp n t (adoptL t L (owns 4 r)) x := by
          intro n
          induction n with
          | zero => intro x _; rfl
          | succ n ih =>
            intro x hx
            cases x <;> simp only [imp]
            case own i e len cells => rw [hgen _ _ _ ht i (hx (i, cells) (by simp [owns]))]
            case agg cells => congr 1; exact List.map_congr_left fun x hm => ih x fun p hp => hx p (by simp only [owns]; exact List.mem_flatMap.2 ⟨x, hm, hp⟩)
            case tup cells => congr 1; exact List.map_congr_left fun x hm => ih x fun p hp => hx p (by simp only [owns]; exact List.mem_flatMap.2 ⟨x, hm, hp⟩)
        exact this 4 r fun p hp => hlt p.1 (List.mem_map_of_mem hp)
      rw [e]; exact this
    unfold Invokes at hd ⊢
    generalize (callFunc f cargs).run X.P w = res at hd ⊢
    cases res with
    | halt h' w' => simp at hd
    | ok n w1 =>
      cases n <;> simp only at hd ⊢
      case value v => exact key v w1 hd
      case enter g as => exact hd.mono fun e w' ⟨v, he, hR⟩ => ⟨v, he, key v w' hR⟩
  · exact hc.elim
end
end Go.Ax
