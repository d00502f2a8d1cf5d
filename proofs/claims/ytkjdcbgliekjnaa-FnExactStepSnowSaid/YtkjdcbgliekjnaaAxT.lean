/- The abstract operations, fifth part: composites; and the operation as a whole. -/
import Derived.Test.YtkjdcbgliekjnaaAxS
namespace Go.Ax
open Go.RowKit (Below)

def fillA (place : Nat → Option (Nat × Nat)) (cells : List AV) : List (Nat × AV) → Option (List AV)
  | [] => some cells
  | (i, x) :: rest => match place i with
    | none => none
    | some (off, size) => match cellsA x with
      | some cs => if cs.length = size ∧ off + size ≤ cells.length then fillA place (setsA cells off cs) rest else none
      | none => none
def zerosA (z : Value) (n : Nat) : List AV :=
  if z.cells.size = 1 then List.replicate n (ofCell z.cells[0]!) else (List.range n).map fun i => ofCell (z.cells[i % z.cells.size]!)
def placesA (P : Program) : List Field → Option (List (Nat × Nat))
  | [] => some []
  | f :: fs => match szOf P f.type, placesA P fs with
    | some n, some ps => some ((f.offset, n) :: ps)
    | _, _ => none

section
variable {B B0 N : Nat} {Tg Tg' : AV → Value → Prop} {w0 w w' : World} {m m' mr : Mp} {L L' : Loc} {fr : Fr} {a : Act} {P : Program}

theorem VRs.set : ∀ {xs : List AV} {vs : List Value} (i : Nat) {x : AV} {v : Value}, VRs B Tg w m L xs vs → VR B Tg w m L x v → VRs B Tg w m L (xs.set i x) (vs.set i v)
  | [], vs, i, _, _, h, _ => by simp [VRs] at h; subst h; simp [VRs]
  | y :: ys, _, i, x, v, h, hx => by
    simp only [VRs] at h
    obtain ⟨u, us, rfl, h1, h2⟩ := h
    cases i with
    | zero => simp only [List.set_cons_zero, VRs]; exact ⟨v, us, rfl, hx, h2⟩
    | succ i => simp only [List.set_cons_succ, VRs]; exact ⟨u, _, rfl, h1, h2.set i hx⟩
theorem VRs.sets : ∀ {xs : List AV} {ys : List AV} {vs us : List Value} (i : Nat), VRs B Tg w m L xs vs → VRs B Tg w m L ys us → VRs B Tg w m L (setsA xs i ys) (setsC vs i us)
  | xs, [], vs, _, i, h, hy => by simp [VRs] at hy; subst hy; exact h
  | xs, y :: ys, vs, _, i, h, hy => by
    simp only [VRs] at hy
    obtain ⟨u, us, rfl, h1, h2⟩ := hy
    rw [setsA, setsC]
    exact (h.set i h1).sets (i + 1) h2
theorem setsA_length : ∀ (ys xs : List AV) (i : Nat), (setsA xs i ys).length = xs.length
  | [], _, _ => rfl
  | y :: ys, xs, i => by rw [setsA, setsA_length ys]; simp

theorem foldl_sets : ∀ (l : List Value) (k : Nat) (c : Array Value) (off : Nat),
    (l.zipIdx k).foldl (fun cs (p : Value × Nat) => cs.setIfInBounds (off + p.2) p.1) c = (setsC c.toList (off + k) l).toArray
  | [], _, c, _ => by simp [setsC]
  | v :: l, k, c, off => by
    simp only [List.zipIdx_cons, List.foldl_cons]
    rw [foldl_sets l (k + 1), setsC]
    simp [Nat.add_assoc, Array.toList_setIfInBounds]
theorem fill_step (v : Value) (off : Nat) (c : Array Value) :
    v.cells.zipIdx.foldl (fun cs (p : Value × Nat) => cs.setIfInBounds (off + p.2) p.1) c = (setsC c.toList off v.cells.toList).toArray := by
  rw [← Array.foldl_toList, Array.toList_zipIdx, foldl_sets]; rfl

/-- Parts, abstract and not. -/
def Parts (B : Nat) (Tg : AV → Value → Prop) (w : World) (m : Mp) (L : Loc) : List (Nat × AV) → List (Nat × Value) → Prop
  | [], ps => ps = []
  | (i, x) :: xs, ps => ∃ v ps', ps = (i, v) :: ps' ∧ VR B Tg w m L x v ∧ livesA L x = true ∧ Parts B Tg w m L xs ps'
theorem fill_sound (place : Nat → Option (Nat × Nat)) : ∀ {ps : List (Nat × AV)} {qs : List (Nat × Value)} {cells cells' : List AV} {c : Array Value}, Parts B Tg w m L ps qs → VRs B Tg w m L cells c.toList → fillA place cells ps = some cells' →
    ∃ c', Instr.fill place c qs = some c' ∧ VRs B Tg w m L cells' c'.toList
  | [], _, cells, cells', c, hp, hc, h => by
    simp only [Parts] at hp; subst hp
    simp only [fillA] at h; cases h
    exact ⟨c, rfl, hc⟩
  | (i, x) :: ps, _, cells, cells', c, hp, hc, h => by
    simp only [Parts] at hp
    obtain ⟨v, qs, rfl, hv, hl, hp⟩ := hp
    simp only [fillA] at h
    cases hpl : place i with
    | none => simp [hpl] at h
    | some os =>
      obtain ⟨off, size⟩ := os
      simp only [hpl] at h
      cases hcs : cellsA x with
      | none => simp [hcs] at h
      | some cs =>
        simp only [hcs] at h
        split at h
        · rename_i hsz
          have hcv := cellsA_sound hv hl hcs
          have hlen := hcv.length
          have hlc := hc.length
          simp only [Array.length_toList] at hlen hlc
          obtain ⟨c', h1, h2⟩ := fill_sound place (c := (setsC c.toList off v.cells.toList).toArray) hp (by simpa using hc.sets off hcv) h
          refine ⟨c', ?_, h2⟩
          simp only [Instr.fill, hpl]
          rw [if_neg (by
            simp only [Bool.or_eq_true, decide_eq_true_eq, not_or]
            constructor
            · omega
            · omega)]
          rw [fill_step]; exact h1
        · cases h
theorem zerosA_sound (z : Value) (n : Nat) : VRs B Tg w m L (zerosA z n) ((Array.range n).map (z.cells[· % z.cells.size]!)).toList := by
  refine VRs.of_get ?_ fun i x hx => ?_
  · unfold zerosA; split <;> simp
  · unfold zerosA at hx
    split at hx
    · rename_i h1
      rw [List.getElem?_replicate] at hx
      split at hx
      · rename_i hi
        cases hx
        refine ⟨z.cells[i % z.cells.size]!, by simp [hi], ?_⟩
        rw [h1, Nat.mod_one]; exact ofCell_sound _
      · cases hx
    · have hi : i < n := by
        rcases Nat.lt_or_ge i n with h' | h'
        · exact h'
        · rw [List.getElem?_eq_none (by simpa using h')] at hx; cases hx
      simp [List.getElem?_range hi] at hx
      subst hx
      exact ⟨z.cells[i % z.cells.size]!, by simp [hi], ofCell_sound _⟩
theorem places_run : ∀ (fs : List Field) (ps : List (Nat × Nat)), placesA P fs = some ps →
    (fs.mapM (m := Sem) fun f => do pure (f.offset, ← sizeOf f.type)).run P w = .ok ps w
  | [], ps, h => by simp [placesA] at h; subst h; rfl
  | f :: fs, ps, h => by
    simp only [placesA] at h
    cases h1 : szOf P f.type with
    | none => simp [h1] at h
    | some n =>
      cases h2 : placesA P fs with
      | none => simp [h1, h2] at h
      | some ps' =>
        simp [h1, h2] at h; subst h
        have ih := places_run fs ps' h2
        simp only [List.mapM_cons, Sem.run_bind, run_sizeOf' h1, Result.andThen_ok, Sem.run_pure, ih]

theorem run_eqGuard {op : BinOp} {T : TypeId} {x y : Operand} {u v : Value} (h : ∀ cs, u ≠ .agg cs) (h' : u ≠ .nilIface) : (eqGuard op T x y u v).run P w = .ok () w := by
  unfold eqGuard
  cases u <;> first
    | exact absurd rfl h'
    | exact absurd rfl (h _)
    | (cases op <;> rfl)
theorem binA_scalar {op : BinOp} {T : TypeId} {x y r : AV} {u : Value} (hx : VR B Tg w m L x u) (h : binA P op T x y = some r) : (∀ cs, u ≠ .agg cs) ∧ u ≠ .nilIface := by
  unfold binA at h
  split at h
  · simp only [VR] at hx; subst hx; simp
  · simp only [VR] at hx; obtain ⟨b, rfl, _⟩ := hx; simp
  · simp only [VR] at hx; obtain ⟨b, rfl, _⟩ := hx; simp
  · simp only [VR] at hx; subst hx; simp
  · simp only [VR] at hx; obtain ⟨b, c, rfl, _⟩ := hx; simp
  · cases h
end

def fieldV (P : Program) (T : TypeId) (x : AV) (f : Nat) : Option AV :=
  match P.underlying T, x with
  | some (.struct fields), .agg cells => match fields[f]? with
    | some fd => match aggT P fd.type with
      | some true => match szOf P fd.type with
        | some n => if fd.offset + n ≤ cells.length then some (.agg ((cells.drop fd.offset).take n)) else none
        | none => none
      | some false => cells[fd.offset]?
      | none => none
    | none => none
  | _, _ => none
/-- An element's address. -/
def ixaA (P : Program) (L : Loc) (T : TypeId) (x i : AV) (K : AV → Prop) : Prop :=
  match P.underlying T, x, i with
  | some (.slice elem), .sli e len cells _, .int _ n => szOf P elem = some e ∧ (0 ≤ n ∧ n < (len : Int)) ∧ K (.ref (cells.drop (n.toNat * e)) .undef)
  | some (.slice elem), .lsl k g off len e, .int _ n => szOf P elem = some e ∧ ((L k).1 == g && (L k).2.isSome) = true ∧ (0 ≤ n ∧ n < (len : Int)) ∧ K (.loc k g (off + n.toNat * e))
  | some (.array len elem), .loc k g off, .int _ n => ((L k).1 == g && (L k).2.isSome) = true ∧ (0 ≤ n ∧ n < (len : Int)) ∧ (match szOf P elem with | some e => K (.loc k g (off + n.toNat * e)) | none => False)
  | some (.array len elem), .ref cells _, .int _ n => (0 ≤ n ∧ n < (len : Int)) ∧ (match szOf P elem with | some e => K (.ref (cells.drop (n.toNat * e)) .undef) | none => False)
  | _, _, _ => False
/-- An element of an array as a value. -/
def ixvA (P : Program) (T : TypeId) (x i : AV) (K : AV → Prop) : Prop :=
  match P.underlying T, x, i with
  | some (.array len elem), .agg cells, .int _ n => (0 ≤ n ∧ n < (len : Int)) ∧ (match aggT P elem, szOf P elem with
    | some true, some e => n.toNat * e + e ≤ cells.length ∧ K (.agg ((cells.drop (n.toNat * e)).take e))
    | some false, some e => (match cells[n.toNat * e]? with | some y => K y | none => False)
    | _, _ => False)
  | _, _, _ => False
def lenA (L : Loc) : AV → Option Nat
  | .sli _ len _ _ => some len
  | .lsl k g _ len _ => if ((L k).1 == g && (L k).2.isSome) = true then some len else none
  | .nilsl => some 0
  | _ => none
def fmaxA (k : FloatKind) (x y : Nat) : Nat :=
  match k.format.order x y with
  | none => qnan k
  | some .lt => y
  | some .gt => x
  | some .eq => if (k.decode x).neg then y else x

section
variable {B B0 N : Nat} {Tg Tg' : AV → Value → Prop} {w0 w w' : World} {m m' mr : Mp} {L L' : Loc} {fr : Fr} {a : Act} {P : Program}
theorem VRs.dropTake {xs : List AV} {vs : List Value} (h : VRs B Tg w m L xs vs) (o n : Nat) : VRs B Tg w m L ((xs.drop o).take n) ((vs.drop o).take n) :=
  VRs.of_get (by simp [h.length]) fun i x hx => by
    rw [List.getElem?_take] at hx ⊢
    split at hx
    · rename_i hi
      rw [List.getElem?_drop] at hx
      obtain ⟨v, hv, hr⟩ := h.get hx
      exact ⟨v, by rw [if_pos hi, List.getElem?_drop]; exact hv, hr⟩
    · cases hx
theorem fieldV_sound {T : TypeId} {x y : AV} {f : Nat} {u : Value} (hx : VR B Tg w m L x u) (h : fieldV P T x f = some y) : ∃ z, (Instr.field T u f).run P w = .ok z w ∧ VR B Tg w m L y z := by
  unfold fieldV at h
  split at h
  · rename_i fields cells hu
    simp only [VR] at hx
    obtain ⟨cs, rfl, hc⟩ := hx
    cases hf : fields[f]? with
    | none => simp [hf] at h
    | some fd =>
      simp only [hf] at h
      split at h
      · rename_i ha
        split at h
        · rename_i n hn
          split at h
          · rename_i hle
            cases h
            refine ⟨.agg (cs.extract fd.offset (fd.offset + n)), ?_, ?_⟩
            · simp [Instr.field, run_underlying hu, hf, asAgg, part, run_isAgg' ha, run_sizeOf' hn]
            · simp only [VR]
              refine ⟨_, rfl, ?_⟩
              rw [Array.toList_extract]
              have := hc.dropTake fd.offset n
              simpa [List.extract_eq_take_drop] using this
          · cases h
        · cases h
      · rename_i ha
        obtain ⟨z, hz, hr⟩ := hc.get h
        rw [Array.getElem?_toList] at hz
        exact ⟨z, by simp [Instr.field, run_underlying hu, hf, asAgg, part, run_isAgg' ha, hz], hr⟩
      · cases h
  · cases h
theorem ixaA_sound {L1 : Loc} (hE : Ext L1 L) {T : TypeId} {x i : AV} {u v : Value} {K : AV → Prop} (hx : VR B Tg w m L x u) (hi : VR B Tg w m L i v) (h : ixaA P L1 T x i K) : ∃ y z, K y ∧ (Instr.indexAt T u v).run P w = .ok z w ∧ VR B Tg w m L y z := by
  unfold ixaA at h
  split at h
  · rename_i elem e len cells t k n hu
    obtain ⟨hs, ⟨h0, h1⟩, hK⟩ := h
    simp only [VR] at hx hi
    subst hi
    obtain ⟨_, hl, hp, hx⟩ := hx
    rcases hx with ⟨rfl, hlen⟩ | ⟨b, off, cap, rfl, hb, hc⟩
    · omega
    · refine ⟨_, .pointer (some ⟨b, off + n.toNat * e, none⟩), hK, ?_, ?_⟩
      · simp [Instr.indexAt, asIntOf, run_underlying hu, h0, h1, run_sizeOf' hs, addr_add]
      · simp only [VR]; exact ⟨trivial, b, _, rfl, hb, hc.drop _⟩
  · rename_i elem k g off len e kk n hu
    obtain ⟨hs, hg, ⟨h0, h1⟩, hK⟩ := h
    simp only [VR] at hx hi
    subst hi
    have hg := (hE.lives hg hx.1).1
    obtain ⟨cap, rfl, hc1, hc2⟩ := hx.2 hg
    refine ⟨_, .pointer (some ⟨(m k).1, off + n.toNat * e, none⟩), hK, ?_, ?_⟩
    · simp [Instr.indexAt, asIntOf, run_underlying hu, h0, h1, run_sizeOf' hs, addr_add]
    · simp only [VR]; exact ⟨hx.1, fun _ => trivial⟩
  · rename_i len elem k g off kk n hu
    obtain ⟨hg, ⟨h0, h1⟩, hK⟩ := h
    cases hs : szOf P elem with
    | none => simp [hs] at hK
    | some e =>
      simp only [hs] at hK
      simp only [VR] at hx hi
      subst hi
      have hg := (hE.lives hg hx.1).1
      have hv := hx.2 hg
      subst hv
      refine ⟨_, .pointer (some ⟨(m k).1, off + n.toNat * e, none⟩), hK, ?_, ?_⟩
      · simp [Instr.indexAt, asIntOf, run_underlying hu, Instr.sureAddr, h0, h1, run_sizeOf' hs, addr_add]
      · simp only [VR]; exact ⟨hx.1, fun _ => trivial⟩
  · rename_i len elem cells t kk n hu
    obtain ⟨⟨h0, h1⟩, hK⟩ := h
    cases hs : szOf P elem with
    | none => simp [hs] at hK
    | some e =>
      simp only [hs] at hK
      simp only [VR] at hx hi
      subst hi
      obtain ⟨_, b, off, rfl, hb, hc⟩ := hx
      refine ⟨_, .pointer (some ⟨b, off + n.toNat * e, none⟩), hK, ?_, ?_⟩
      · simp [Instr.indexAt, asIntOf, run_underlying hu, Instr.sureAddr, h0, h1, run_sizeOf' hs, addr_add]
      · simp only [VR]; exact ⟨trivial, b, _, rfl, hb, hc.drop _⟩
  · exact h.elim
theorem ixvA_sound {T : TypeId} {x i : AV} {u v : Value} {K : AV → Prop} (hx : VR B Tg w m L x u) (hi : VR B Tg w m L i v) (h : ixvA P T x i K) : ∃ y z, K y ∧ (Instr.index T u v).run P w = .ok z w ∧ VR B Tg w m L y z := by
  unfold ixvA at h
  split at h
  · rename_i len elem cells kk n hu
    obtain ⟨⟨h0, h1⟩, h⟩ := h
    simp only [VR] at hx hi
    subst hi
    obtain ⟨cs, rfl, hc⟩ := hx
    split at h
    · rename_i e ha hs
      obtain ⟨hle, hK⟩ := h
      refine ⟨_, .agg (cs.extract (n.toNat * e) (n.toNat * e + e)), hK, ?_, ?_⟩
      · simp [Instr.index, asIntOf, run_underlying hu, h0, h1, part, run_isAgg' ha, run_sizeOf' hs]
      · simp only [VR]
        refine ⟨_, rfl, ?_⟩
        rw [Array.toList_extract]
        have := hc.dropTake (n.toNat * e) e
        simpa [List.extract_eq_take_drop] using this
    · rename_i e ha hs
      split at h
      · rename_i y hy
        obtain ⟨z, hz, hr⟩ := hc.get hy
        rw [Array.getElem?_toList] at hz
        exact ⟨y, z, h, by simp [Instr.index, asIntOf, run_underlying hu, h0, h1, part, run_isAgg' ha, run_sizeOf' hs, hz], hr⟩
      · exact h.elim
    · exact h.elim
  · exact h.elim
theorem fmaxA_sound {k : FloatKind} {a b x y : Nat} (ha : Fl k a x) (hb : Fl k b y) : ∃ r d, (Builtin.max2 (.float k a) (.float k b)).run P w = .ok (.float k r) { w with drawn := d } ∧ Fl k r (fmaxA k x y) := by
  have ho := order_canon ha hb
  unfold fmaxA
  rw [← ho]
  have hnn : ∀ o, k.format.order a b = some o → isNaN k a = false := fun o h => by
    cases hn : isNaN k a with
    | false => rfl
    | true => obtain ⟨s, f, hr⟩ := read_of_nan hn; simp [Ieee.Format.order, hr, order_nan_left] at h
  cases h : k.format.order a b with
  | none =>
    refine ⟨(Question.nanMinMax k true a b).cut (w.tape w.drawn (.nanMinMax k true a b)), w.drawn + 1, ?_, ?_⟩
    · simp [Builtin.max2, h, Question.forced]
    · cases k
      · exact nan32 _
      · exact nan64 _
  | some o =>
    have ea := ha.eq (hnn o h)
    cases o with
    | lt => exact ⟨b, w.drawn, by simp [Builtin.max2, h], hb⟩
    | gt => exact ⟨a, w.drawn, by simp [Builtin.max2, h], ha⟩
    | eq =>
      refine ⟨if (k.decode a).neg then b else a, w.drawn, by simp [Builtin.max2, h], ?_⟩
      rw [ea]
      split
      · exact hb
      · rw [← ea]; rw [← ea] at ha; exact ha
end
end Go.Ax
