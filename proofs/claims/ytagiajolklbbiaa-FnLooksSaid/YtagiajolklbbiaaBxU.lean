/- The executor: one operation that writes nothing that was there. -/
import Derived.Test.YtagiajolklbbiaaBxQ
import Derived.Deep.AppendSrc
namespace Go.Bx
open Go.Ax
open Go.RowKit (Below)

structure Cx where
  P : Program
  N : Nat
  ms : List FuncId
  cuts : List Nat
  all : Bool := false
  ws : List FuncId := []

/-- 'if b': by computation where b is known. -/
def br (b : Bool) (A B : Prop) : Prop := @Bool.rec (fun _ => Prop) B A b
theorem br_intro {b : Bool} {A B : Prop} (h1 : b = true → A) (h2 : b = false → B) : @Bool.rec (fun _ => Prop) B A b := by
  cases b
  · exact h2 rfl
  · exact h1 rfl
theorem br_elim {b : Bool} {A B : Prop} (h : br b A B) : (b = true → A) ∧ (b = false → B) := by
  cases b
  · exact ⟨fun h => (by cases h), fun _ => h⟩
  · exact ⟨fun _ => h, fun h => (by cases h)⟩

/-- The rows of a slice. -/
def rowsOf (L : Loc) : AV → Option ((r : RK) × List r.T)
  | .sli r xs _ => some ⟨r, xs⟩
  | .osl k => match L k with
    | .live (.tab r xs) => some ⟨r, xs⟩
    | _ => none
  | .emp r => some ⟨r, []⟩
  | _ => none
def castRows : (r r' : RK) → List r'.T → Option (List r.T)
  | .f32, .f32, xs => some xs
  | .int k, .int k', xs => if k = k' then some xs else none
  | .f4, .f4, xs => some xs
  | .nb, .nb, xs => some xs
  | .c64, .c64, xs => some xs
  | _, _, _ => none
theorem castRows_eq {r r' : RK} {xs : List r'.T} {ys : List r.T} (h : castRows r r' xs = some ys) : r = r' ∧ rowsA r ys = rowsA r' xs ∧ ys.length = xs.length := by
  unfold castRows at h
  split at h
  · cases h; exact ⟨rfl, rfl, rfl⟩
  · split at h
    · rename_i hk; cases h; subst hk; exact ⟨rfl, rfl, rfl⟩
    · cases h
  · cases h; exact ⟨rfl, rfl, rfl⟩
  · cases h; exact ⟨rfl, rfl, rfl⟩
  · cases h; exact ⟨rfl, rfl, rfl⟩
  · cases h
def lenA (L : Loc) (x : AV) : Option Nat :=
  match x with
  | .nil => some 0
  | x => match rowsOf L x with
    | some ⟨_, xs⟩ => some xs.length
    | none => none
/-- 'append'. -/
def appK (P : Program) (L : Loc) (t : Nat) (T : TypeId) (x y : AV) (K : AV → List (Nat × Blk) → List Nat → Prop) : Prop :=
  match P.underlying T with
  | some (.slice e) => match rowKind P e, zeroOf P e, (P.info? e).map (·.bytes) with
    | some r, some z, some bytes => match Nat.ble bytes 1024 && Nat.beq z.cells.size r.w, rowsOf L y with
      | true, some ⟨r', ys'⟩ => match castRows r r' ys' with
        | some ys => match x with
          | .emp _ => ys.length ≤ 67108864 ∧ K (.osl (t * 4 + 0)) [(0, .tab r ys)] []
          | .osl k => match L k with
            | .live (.tab r'' xs') => match castRows r r'' xs' with
              | some xs => xs.length + ys.length ≤ 67108864 ∧ K (.osl (t * 4 + 0)) [(0, .tab r (xs ++ ys))] [k]
              | none => False
            | _ => False
          | _ => False
        | none => False
      | _, _ => False
    | _, _, _ => False
  | _ => False
def fmaxA (k : FloatKind) (x y : Nat) : Nat :=
  match k.format.order x y with
  | none => qnan k
  | some .lt => y
  | some .gt => x
  | some .eq => if (k.decode x).neg then y else x
def fminA (k : FloatKind) (x y : Nat) : Nat :=
  match k.format.order x y with
  | none => qnan k
  | some .lt => x
  | some .gt => y
  | some .eq => if (k.decode x).neg then x else y
def coArgs (P : Program) : List TypeId → List AV → List AV
  | T :: ts, x :: xs => coA P T x :: coArgs P ts xs
  | _, xs => xs
def builtinK (X : Cx) (L : Loc) (t : Nat) (b : Builtin) (ats : Array TypeId) (args : List AV) (K : AV → List (Nat × Blk) → List Nat → Prop) : Prop :=
  match b, args with
  | .len, [x] => match ats[0]? with
    | some T => match isSli X.P T, lenA L x with
      | true, some n => K (.int .i64 n) [] []
      | _, _ => False
    | none => False
  | .real, [.cpx k x _] => K (.flt k x) [] []
  | .imag, [.cpx k _ y] => K (.flt k y) [] []
  | .complex, [.flt k x, .flt k' y] => k = k' ∧ K (.cpx k x y) [] []
  | .max, [.flt k x, .flt k' y] => k = k' ∧ K (.flt k (fmaxA k x y)) [] []
  | .min, [.flt k x, .flt k' y] => k = k' ∧ K (.flt k (fminA k x y)) [] []
  | .max, [.int k x, .int _ y] => K (.int k (if y > x then y else x)) [] []
  | .min, [.int k x, .int _ y] => K (.int k (if y < x then y else x)) [] []
  | .append, [x, y] => match ats[0]?, ats[1]? with
    | some T, some T' => match isSli X.P T' with
      | true => appK X.P L t T (coA X.P T x) (coA X.P T' y) K
      | false => False
    | _, _ => False
  | _, _ => False
/-- 'K x', x brought to its head form first. -/
def forceA (x : AV) (K : AV → Prop) : Prop :=
  match x with
  | .undef => K .undef
  | .skip => K .skip
  | .bool b => K (.bool b)
  | .int k n => K (.int k n)
  | .flt k x => K (.flt k x)
  | .fbits x => K (.fbits x)
  | .cpx k x y => K (.cpx k x y)
  | .nil => K .nil
  | .emp r => K (.emp r)
  | .loc k off => K (.loc k off)
  | .osl k => K (.osl k)
  | .eloc k i j => K (.eloc k i j)
  | .ref cells t => K (.ref cells t)
  | .sli r xs t => K (.sli r xs t)
  | .eref r xs i j => K (.eref r xs i j)
  | .own i r xs => K (.own i r xs)
  | .agg cells => K (.agg cells)
  | .tup vs => K (.tup vs)
  | .fn f caps => K (.fn f caps)
theorem forceA_eq (x : AV) (K : AV → Prop) : forceA x K = K x := by cases x <;> rfl
/-- The like for a list, and for the lists in it. -/
def forceL : Nat → List AV → (List AV → Prop) → Prop
  | 0, xs, K => K xs
  | n + 1, xs, K => match xs with
    | [] => K []
    | x :: xs => match x with
      | .agg cells => forceL n cells fun cells => forceL n xs fun xs => K (.agg cells :: xs)
      | .ref cells t => forceL n cells fun cells => forceL n xs fun xs => K (.ref cells t :: xs)
      | .fn f caps => forceL n caps fun caps => forceL n xs fun xs => K (.fn f caps :: xs)
      | x => forceA x fun x => forceL n xs fun xs => K (x :: xs)
theorem forceL_eq : ∀ (n : Nat) (xs : List AV) (K : List AV → Prop), forceL n xs K = K xs
  | 0, _, _ => rfl
  | n + 1, [], _ => rfl
  | n + 1, x :: xs, K => by
    cases x <;> simp only [forceL, forceL_eq n, forceA_eq]
/-- A call: what it hands back. -/
def callK (X : Cx) (L : Loc) (t : Nat) (f : FuncId) (args : List AV) (K : AV → List (Nat × Blk) → List Nat → Prop) : Prop :=
  forceL 16 (args.map (fz 4 L)) fun as => ∃ r, Does X.P f as r ∧ K (imp 4 t r) (owns 4 r) []
def fieldV (P : Program) (T : TypeId) (x : AV) (f : Nat) : Option AV :=
  match P.underlying T, x with
  | some (.struct fields), .agg cells => match fields[f]? with
    | some fd => match aggT P fd.type with
      | some true => match szOf P fd.type with
        | some n => match Nat.ble (fd.offset + n) cells.length with
          | true => some (.agg ((cells.drop fd.offset).take n))
          | false => none
        | none => none
      | some false => cells[fd.offset]?
      | none => none
    | none => none
  | _, _ => none
/-- An element's address. -/
def ixaK (P : Program) (L : Loc) (T : TypeId) (x i : AV) (K : AV → Prop) : Prop :=
  match i with
  | .int _ n => match P.underlying T with
    | some (.slice elem) => match szOf P elem with
      | some e => match x with
        | .sli r xs _ => match Nat.beq e r.w with
          | true => (0 ≤ n ∧ n < (xs.length : Int)) ∧ K (.eref r xs n.toNat 0)
          | false => False
        | .osl k => match L k with
          | .live (.tab r xs) => match Nat.beq e r.w with
            | true => (0 ≤ n ∧ n < (xs.length : Int)) ∧ K (.eloc k n.toNat 0)
            | false => False
          | _ => False
        | _ => False
      | none => False
    | some (.array len elem) => match szOf P elem with
      | some e => match x with
        | .loc k off => match L k with
          | .live _ => (0 ≤ n ∧ n < (len : Int)) ∧ K (.loc k (off + n.toNat * e))
          | _ => False
        | .ref cells _ => (0 ≤ n ∧ n < (len : Int)) ∧ K (.ref (cells.drop (n.toNat * e)) .undef)
        | _ => False
      | none => False
    | _ => False
  | _ => False
/-- An element of an array as a value. -/
def ixvK (P : Program) (T : TypeId) (x i : AV) (K : AV → Prop) : Prop :=
  match P.underlying T, x, i with
  | some (.array len elem), .agg cells, .int _ n => (0 ≤ n ∧ n < (len : Int)) ∧ (match aggT P elem, szOf P elem with
    | some true, some e => n.toNat * e + e ≤ cells.length ∧ K (.agg ((cells.drop (n.toNat * e)).take e))
    | some false, some e => onO cells[n.toNat * e]? K
    | _, _ => False)
  | _, _, _ => False
def slK (P : Program) (T : TypeId) (x : AV) (low high max : Option AV) (K : AV → Prop) : Prop :=
  match P.underlying T, low, high, max with
  | some (.slice e), none, some (.int _ n), none => match szOf P e, x with
    | some _, .sli r xs _ => (0 ≤ n ∧ n ≤ (xs.length : Int)) ∧ K (.sli r (xs.take n.toNat) .undef)
    | _, _ => False
  | _, _, _, _ => False
/-- An operation that writes nothing that was there: its value, the blocks that it makes, and the slices that it uses up. -/
def qOp (X : Cx) (L : Loc) (d : Nat) (o : Oper) (fr : Fr) (K : AV → List (Nat × Blk) → List Nat → Prop) : Prop :=
  match o.op with
  | .move x | .assign x => K (coA X.P o.type (evA fr x)) [] []
  | .pick c a b => match evA fr c with
    | .bool p => br p (K (evA fr a) [] []) (K (evA fr b) [] [])
    | _ => False
  | .alloc T => match zeroOf X.P T with
    | some z => match cellsA (coA X.P T (.agg (z.cells.toList.map ofCell))) with
      | some cs => match aggT X.P T with
        | some true => K (.loc (d * 4 + 0) 0) [(0, .av cs)] []
        | _ => K (.loc (d * 4 + 0) 0) [(0, .av (z.cells.toList.map fun v => coA X.P T (ofCell v)))] []
      | none => False
    | none => False
  | .box T x => match livesA L (evA fr x), cellsA (coA X.P T (evA fr x)) with
    | true, some cs => K (.loc (d * 4 + 0) 0) [(0, .av cs)] []
    | _, _ => False
  | .build T parts => match zeroOf X.P T, X.P.underlying T with
    | some z, some (.struct fields) => match placesA X.P fields.toList with
      | some ps => match (parts.toList.map (·.2)).all (fun x => livesA L (evA fr x)), fillA (ps[·]?) (z.cells.toList.map ofCell) (parts.toList.map fun p => (p.1, evA fr p.2)) with
        | true, some cs => K (coA X.P T (.agg cs)) [] []
        | _, _ => False
      | none => False
    | some z, some (.array _ elem) => match szOf X.P elem with
      | some e => match (parts.toList.map (·.2)).all (fun x => livesA L (evA fr x)), fillA (fun i => some (i * e, e)) (z.cells.toList.map ofCell) (parts.toList.map fun p => (p.1, evA fr p.2)) with
        | true, some cs => K (.agg cs) [] []
        | _, _ => False
      | none => False
    | _, _ => False
  | .buildSlice T len parts => match X.P.underlying T with
    | some (.slice elem) => match rowKind X.P elem, zeroOf X.P elem with
      | some r, some z => match Nat.beq len 0 && Nat.beq parts.size 0 with
        | true => K (.osl (d * 4 + 0)) [(0, .tab r [])] []
        | false => match Nat.blt 0 len && Nat.ble len 1024 with
          | true => match (parts.toList.map (·.2)).all (fun x => livesA L (evA fr x)), fillA (fun i => some (i * r.w, r.w)) (zerosA z (len * r.w)) (parts.toList.map fun p => (p.1, evA fr p.2)) with
            | true, some cs => match decRows r len cs with
              | some xs => K (.osl (d * 4 + 0)) [(0, .tab r xs)] []
              | none => False
            | _, _ => False
          | false => False
      | _, _ => False
    | _ => False
  | .load T x => onO (ldA X.P L T (evA fr x)) fun y => K y [] []
  | .nilCheck x => match ptrA L (evA fr x) with
    | true => K (evA fr x) [] []
    | false => False
  | .binOp op T x y _ => binK X.P L op T (evA fr x) (evA fr y) fun z => K z [] []
  | .unOp op _ x => unK op (evA fr x) fun z => K z [] []
  | .convert s d x => cvK X.P s d (evA fr x) fun z => K z [] []
  | .makeFunc (.func f) first caps => match first.toList with
    | [] => K (.fn f (caps.toList.map (evA fr))) [] []
    | _ => False
  | .makeSlice T l c => match X.P.underlying T, evA fr l, evA fr c with
    | some (.slice elem), .int .i64 n, .int .i64 n' => match rowKind X.P elem, zeroOf X.P elem, (X.P.info? elem).map (·.bytes) with
      | some r, some z, some bytes => match Nat.ble bytes 1024, r.dec (z.cells.toList.map ofCell) with
        | true, some row => (n = n' ∧ 0 ≤ n ∧ n ≤ 67108864) ∧ K (.osl (d * 4 + 0)) [(0, .tab r (List.replicate n.toNat row))] []
        | _, _ => False
      | _, _, _ => False
    | _, _, _ => False
  | .slice T x low high max => slK X.P T (evA fr x) (low.map (evA fr)) (high.map (evA fr)) (max.map (evA fr)) fun y => K y [] []
  | .fieldAddr S x f => onO (fieldA X.P L S (evA fr x) f) fun y => K y [] []
  | .field T x f => onO (fieldV X.P T (evA fr x) f) fun y => K y [] []
  | .indexAddr T x i => ixaK X.P L T (evA fr x) (evA fr i) fun y => K y [] []
  | .index T x i => ixvK X.P T (evA fr x) (evA fr i) fun y => K y [] []
  | .extract x i => match evA fr x with
    | .tup vs => onO vs[i]? fun y => K y [] []
    | _ => False
  | .call c => match c.callee with
    | .value x => match evA fr x with
      | .fn f caps => callK X L (d) f (coArgs X.P c.argTypes.toList (c.args.toList.map (evA fr)) ++ caps) K
      | _ => False
    | .builtin b => builtinK X L (d) b c.argTypes (c.args.toList.map (evA fr)) K
    | _ => False
  | _ => False
end Go.Bx
