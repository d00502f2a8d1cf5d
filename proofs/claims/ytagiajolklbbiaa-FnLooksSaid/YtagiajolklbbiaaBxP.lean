/- Loads, stores, addresses: the abstract operations, and that the model's do the same. -/
import Derived.Test.YtagiajolklbbiaaBxO
namespace Go.Bx
open Go.Ax
open Go.RowKit (Below)

/-- Laying the parts of a composite. -/
def setsA (cells : List AV) (off : Nat) : List AV → List AV
  | [] => cells
  | c :: cs => setsA (cells.set off c) (off + 1) cs
def setsC (c : List Value) (off : Nat) : List Value → List Value
  | [] => c
  | v :: vs => setsC (c.set off v) (off + 1) vs
/-- The cells of a value. -/
def cellsA : AV → Option (List AV)
  | .agg cs => some cs
  | .undef | .skip | .tup _ | .own .. => none
  | x => some [x]
/-- A value of one cell. -/
def oneA : AV → Bool
  | .undef | .skip | .tup _ | .agg _ | .own .. => false
  | _ => true
def isLive : KS → Bool
  | .live _ => true
  | _ => false
def isTab : KS → Bool
  | .live (.tab _ _) => true
  | _ => false
/-- The references among some values are valid ones. -/
def livesA (L : Loc) : AV → Bool
  | .loc k _ => isLive (L k)
  | .osl k => isTab (L k)
  | .eloc k _ _ => isTab (L k)
  | _ => true
/-- The row of a pointer into rows. -/
def rowOf (L : Loc) : AV → Option (List AV)
  | .ref cells _ => some cells
  | .loc k off => match L k with
    | .live (.av cells) => some (cells.drop off)
    | _ => none
  | .eloc k i j => match L k with
    | .live (.tab r xs) => some ((r.enc (xs.getD i r.z)).drop j)
    | _ => none
  | .eref r xs i j => some ((r.enc (xs.getD i r.z)).drop j)
  | _ => none
def aggT (P : Program) (T : TypeId) : Option Bool :=
  match P.underlying T with
  | some (.struct _) | some (.array _ _) => some true
  | some _ => some false
  | none => none
def ldA (P : Program) (L : Loc) (T : TypeId) (x : AV) : Option AV :=
  match rowOf L x with
  | some cells => match aggT P T with
    | some true => match szOf P T with
      | some n => match Nat.ble n cells.length with
        | true => some (.agg (cells.take n))
        | false => none
      | none => none
    | some false => cells[0]?
    | none => none
  | none => none
def stA (P : Program) (L : Loc) (T : TypeId) (x y : AV) : Option Loc :=
  match cellsA y with
  | some cs => match szOf P T with
    | some n => match Nat.beq n cs.length && cs.all oneA && cs.all (livesA L) && livesA L y with
      | true => match x with
        | .loc k off => match L k with
          | .live (.av cells) => match Nat.ble (off + cs.length) cells.length with
            | true => some (upd L k (.live (.av (setsA cells off cs))))
            | false => none
          | _ => none
        | .eloc k i j => match L k with
          | .live (.tab r xs) => match Nat.ble (j + cs.length) r.w, r.dec (setsA (r.enc (xs.getD i r.z)) j cs) with
            | true, some row => some (upd L k (.live (.tab r (xs.set i row))))
            | _, _ => none
          | _ => none
        | _ => none
      | false => none
    | none => none
  | none => none
def offA (L : Loc) (x : AV) (n : Nat) : Option AV :=
  match x with
  | .loc k off => match L k with
    | .live _ => some (.loc k (off + n))
    | _ => none
  | .ref cells _ => some (.ref (cells.drop n) .undef)
  | .eloc k i j => match L k with
    | .live (.tab r _) => match Nat.blt (j + n) r.w with
      | true => some (.eloc k i (j + n))
      | false => none
    | _ => none
  | .eref r xs i j => match Nat.blt (j + n) r.w with
    | true => some (.eref r xs i (j + n))
    | false => none
  | _ => none
/-- A pointer that points somewhere. -/
def ptrA (L : Loc) : AV → Bool
  | .loc k _ => isLive (L k)
  | .ref .. => true
  | .eloc k _ _ => isTab (L k)
  | .eref .. => true
  | _ => false
def fieldA (P : Program) (L : Loc) (S : TypeId) (x : AV) (f : Nat) : Option AV :=
  match P.underlying S with
  | some (.struct fields) => match fields[f]? with
    | some fd => match szOf P fd.type with
      | some (_ + 1) => offA L x fd.offset
      | _ => none
    | none => none
  | _ => none

section
variable {F F' : Nat → Prop} {N : Nat} {pn : Option (Nat × Nat)} {Tg Tg' : AV → Value → Prop} {w0 w w' : World} {sh : Sh} {m m' : Mp} {L L' : Loc} {fr : Fr} {a : Act} {P : Program}

theorem isLive_iff {s : KS} (h : isLive s = true) : ∃ b, s = .live b := by
  cases s <;> simp [isLive] at h
  exact ⟨_, rfl⟩
theorem isTab_iff {s : KS} (h : isTab s = true) : ∃ r xs, s = .live (.tab r xs) := by
  cases s with
  | free => simp [isTab] at h
  | dead => simp [isTab] at h
  | live b => cases b with
    | av l => simp [isTab] at h
    | tab r xs => exact ⟨r, xs, rfl⟩
theorem setsC_length : ∀ (vs c : List Value) (off : Nat), (setsC c off vs).length = c.length
  | [], _, _ => rfl
  | v :: vs, c, off => by rw [setsC, setsC_length vs]; simp
theorem setsA_length : ∀ (ys xs : List AV) (i : Nat), (setsA xs i ys).length = xs.length
  | [], _, _ => rfl
  | y :: ys, xs, i => by rw [setsA, setsA_length ys]; simp
theorem VRpre.set : ∀ {xs : List AV} {vs : List Value} (i : Nat) {x : AV} {v : Value}, VRpre F Tg w m L xs vs → VR F Tg w m L x v → VRpre F Tg w m L (xs.set i x) (vs.set i v)
  | [], vs, i, _, _, _, _ => by simp [VRpre]
  | y :: ys, _, i, x, v, h, hx => by
    simp only [VRpre] at h
    obtain ⟨u, us, rfl, h1, h2⟩ := h
    cases i with
    | zero => simp only [List.set_cons_zero, VRpre]; exact ⟨v, us, rfl, hx, h2⟩
    | succ i => simp only [List.set_cons_succ, VRpre]; exact ⟨u, _, rfl, h1, h2.set i hx⟩
theorem VRpre.sets : ∀ {xs : List AV} {ys : List AV} {vs us : List Value} (i : Nat), VRpre F Tg w m L xs vs → VRs F Tg w m L ys us → VRpre F Tg w m L (setsA xs i ys) (setsC vs i us)
  | xs, [], vs, _, i, h, hy => by simp [VRs] at hy; subst hy; exact h
  | xs, y :: ys, vs, _, i, h, hy => by
    simp only [VRs] at hy
    obtain ⟨u, us, rfl, h1, h2⟩ := hy
    rw [setsA, setsC]
    exact (h.set i h1).sets (i + 1) h2
theorem VRs.sets : ∀ {xs : List AV} {ys : List AV} {vs us : List Value} (i : Nat), VRs F Tg w m L xs vs → VRs F Tg w m L ys us → VRs F Tg w m L (setsA xs i ys) (setsC vs i us)
  | xs, [], vs, _, i, h, hy => by simp [VRs] at hy; subst hy; exact h
  | xs, y :: ys, vs, _, i, h, hy => by
    simp only [VRs] at hy
    obtain ⟨u, us, rfl, h1, h2⟩ := hy
    rw [setsA, setsC]
    exact (h.set i h1).sets (i + 1) h2
theorem setsA_mid : ∀ (cs pre mid post : List AV) (j : Nat), j + cs.length ≤ mid.length → setsA (pre ++ (mid ++ post)) (pre.length + j) cs = pre ++ (setsA mid j cs ++ post)
  | [], _, _, _, _, _ => rfl
  | c :: cs, pre, mid, post, j, h => by
    simp only [List.length_cons] at h
    rw [setsA, setsA, List.set_append_right _ _ (by omega), show pre.length + j - pre.length = j by omega, List.set_append_left _ _ (by omega), Nat.add_assoc]
    exact setsA_mid cs pre (mid.set j c) post (j + 1) (by simp; omega)
theorem rowsA_sets (r : RK) {xs : List r.T} {i j : Nat} {cs : List AV} {row : r.T} (hi : i < xs.length) (hj : j + cs.length ≤ r.w) (h : r.enc row = setsA (r.enc xs[i]) j cs) : rowsA r (xs.set i row) = setsA (rowsA r xs) (i * r.w + j) cs := by
  have e : xs = xs.take i ++ (xs[i] :: xs.drop (i + 1)) := by
    rw [← List.drop_eq_getElem_cons hi]; exact (List.take_append_drop i xs).symm
  have e2 : xs.set i row = xs.take i ++ (row :: xs.drop (i + 1)) := List.set_eq_take_append_cons_drop .. |>.trans (by rw [if_pos hi])
  have hl : (rowsA r (xs.take i)).length = i * r.w := by rw [rowsA_len, List.length_take, Nat.min_eq_left (by omega)]
  have c : ∀ (x : r.T) (l : List r.T), rowsA r (x :: l) = r.enc x ++ rowsA r l := fun x l => by simp [rowsA]
  rw [e2, rowsA_append, c, h]
  conv => rhs; rw [e, rowsA_append, c, ← hl]
  exact (setsA_mid cs _ _ _ j (by rw [r.enc_len]; exact hj)).symm

theorem oneA_sound {x : AV} {v : Value} (h : oneA x = true) (hv : VR F Tg w m L x v) (hl : livesA L x = true) : v.oneCell' = true := by
  cases x <;> simp [oneA] at h <;> simp only [VR] at hv
  case bool => subst hv; rfl
  case int => subst hv; rfl
  case flt => obtain ⟨b, rfl, _⟩ := hv; rfl
  case fbits => obtain ⟨b, rfl, _⟩ := hv; rfl
  case cpx => obtain ⟨b, c, rfl, _⟩ := hv; rfl
  case nil => subst hv; rfl
  case emp => obtain ⟨b, rfl⟩ := hv; rfl
  case loc k off => obtain ⟨b, hb⟩ := isLive_iff hl; rw [hv.2 _ hb]; rfl
  case osl k =>
    obtain ⟨r, xs, hb⟩ := isTab_iff hl
    rcases hv.2 _ _ hb with ⟨_, b, e⟩ | ⟨_, cap, e, _⟩ <;> (rw [e]; rfl)
  case eloc k i j => obtain ⟨r, xs, hb⟩ := isTab_iff hl; rw [(hv.2 _ _ hb).1]; rfl
  case ref => obtain ⟨_, b, off, rfl, _⟩ := hv; rfl
  case sli => obtain ⟨_, ⟨b, rfl, _⟩ | ⟨b, off, cap, rfl, _⟩⟩ := hv <;> rfl
  case eref => obtain ⟨_, _, b, off, rfl, _⟩ := hv; rfl
  case fn => obtain ⟨cs, rfl, _⟩ := hv; rfl

theorem run_storeCells {b : Nat} {t : TypeId} : ∀ (vs : List Value) (c : Array Value) (off i : Nat) (w : World), w.heap[b]? = some (.cells c t (0, 0)) → off + i + vs.length ≤ c.size → (∀ v ∈ vs, v.oneCell' = true) →
    ∃ w', (storeCells ⟨b, off, none⟩ vs i).run P w = .ok () w' ∧ w'.heap[b]? = some (.cells (setsC c.toList (off + i) vs).toArray t (0, 0)) ∧ w'.heap.size = w.heap.size ∧
      (∀ k, k ≠ b → w'.heap[k]? = w.heap[k]?) ∧ w'.os = w.os ∧ w'.tape = w.tape ∧ w'.output = w.output
  | [], c, off, i, w, hb, _, _ => ⟨w, rfl, by simpa [setsC] using hb, rfl, fun _ _ => rfl, rfl, rfl, rfl⟩
  | v :: vs, c, off, i, w, hb, hle, hv => by
    simp only [List.length_cons] at hle
    have haddr : ∀ n, (⟨b, off, none⟩ : Addr).add n = ⟨b, off + n, none⟩ := fun n => by
      unfold Addr.add; split
      · rename_i h; rw [h]; rfl
      · rfl
    have hcell : w.cell? ⟨b, off + i, none⟩ = some (c[off + i]'(by omega)) := by
      simp only [World.cell?, hb]
      simp
    have hfr : w.frozen? ⟨b, off + i, none⟩ = false := by
      simp only [World.frozen?, hb]
      simp
    have hset : (w.setCell ⟨b, off + i, none⟩ v).heap[b]? = some (.cells (c.setIfInBounds (off + i) v) t (0, 0)) := by
      simp [World.setCell, Array.getElem?_modify, hb]
    obtain ⟨w', h1, h2, h3, h4, h5, h6, h7⟩ := run_storeCells vs (c.setIfInBounds (off + i) v) off (i + 1) (w.setCell ⟨b, off + i, none⟩ v) hset (by simp; omega) fun u hu => hv u (by simp [hu])
    refine ⟨w', ?_, ?_, by rw [h3]; simp, fun k hk => by rw [h4 k hk]; exact Below.heap_setCell _ _ _ _ hk, h5, h6, h7⟩
    · rw [storeCells, haddr]
      rw [Sem.run_bind, run_store _ _ _ _ _ (hv v (by simp)), hcell]
      simp only [hfr, Bool.false_eq_true, if_false, Result.andThen_ok, h1]
    · rw [h2]; simp [setsC, Array.toList_setIfInBounds, Nat.add_assoc]
theorem addr_add (b off n : Nat) : (⟨b, off, none⟩ : Addr).add n = ⟨b, off + n, none⟩ := by
  unfold Addr.add; split
  · rename_i h; rw [h]; rfl
  · rfl
theorem run_sizeOf' {T : TypeId} {n : Nat} (h : szOf P T = some n) : (sizeOf T).run P w = .ok n w := by
  unfold szOf at h
  cases hi : P.info? T with
  | none => simp [hi] at h
  | some i => simp [hi] at h; simp [sizeOf, typeInfo, hi, h]
theorem run_zeroValue' {T : TypeId} {v : Value} (h : zeroOf P T = some v) : (zeroValue T).run P w = .ok v w := by
  unfold zeroOf at h
  cases hi : P.info? T with
  | none => simp [hi] at h
  | some i => simp [hi] at h; simp [zeroValue, typeInfo, hi, h]
theorem run_isAgg' {T : TypeId} {b : Bool} (h : aggT P T = some b) : (isAgg T).run P w = .ok b w := by
  unfold aggT at h
  cases hu : P.underlying T with
  | none => simp [hu] at h
  | some d =>
    cases d <;> simp [hu] at h <;> subst h <;> simp [isAgg, run_underlying hu]

theorem rowOf_sound (h : HP F Tg w m L) {L1 : Loc} (hx : Ext L1 L) {x : AV} {cells : List AV} {v : Value} (hv : VR F Tg w m L x v) (hr : rowOf L1 x = some cells) :
    ∃ b off, v = .pointer (some ⟨b, off, none⟩) ∧ VRat F Tg w m L cells b off := by
  unfold rowOf at hr
  split at hr
  · cases hr
    simp only [VR] at hv
    obtain ⟨_, b, off, rfl, _, hc⟩ := hv
    exact ⟨b, off, rfl, hc⟩
  · rename_i k off
    split at hr
    · rename_i cells' hL
      cases hr
      simp only [VR] at hv
      have hE := hx k _ hL hv.1
      obtain ⟨_, c, t, h2, h3, h4⟩ := h k _ hE trivial
      have := (h4.at h2).drop off
      rw [Nat.zero_add] at this
      exact ⟨_, _, hv.2 _ hE, this⟩
    · cases hr
  · rename_i k i j
    split at hr
    · rename_i r xs hL
      cases hr
      simp only [VR] at hv
      have hE := hx k _ hL hv.1
      obtain ⟨e, hi, hj⟩ := hv.2 _ _ hE
      obtain ⟨_, c, t, h2, h3, h4⟩ := h k _ hE (fun e => by rw [e] at hi; simp at hi)
      have := (h4.rows.at h2).row (F := F) (Tg := Tg) (m := m) (L := L) hi j
      rw [Nat.zero_add] at this
      exact ⟨_, _, e, this⟩
    · cases hr
  · rename_i r xs i j
    cases hr
    simp only [VR] at hv
    obtain ⟨hi, hj, b, off, e, hb, hc⟩ := hv
    exact ⟨b, _, e, hc.row hi j⟩
  · cases hr
theorem run_loadCells' {xs : List AV} {b off : Nat} (h : VRat F Tg w m L xs b off) : ∃ cs : Array Value, (loadCells ⟨b, off, none⟩ xs.length).run P w = .ok cs w ∧ VRs F Tg w m L xs cs.toList := by
  let f : Nat → Value := fun j => (w.cell? ⟨b, off + j, none⟩).getD Go.undef
  have hf : ∀ j, j < xs.length → w.cell? ((⟨b, off, none⟩ : Addr).add j) = some (f j) := fun j hj => by
    obtain ⟨v, hv, _⟩ := h.get (List.getElem?_eq_getElem hj)
    rw [addr_add]; simp [f, hv]
  refine ⟨_, run_loadCells w _ _ f hf, VRs.of_get (by simp) fun i x hx => ?_⟩
  obtain ⟨v, hv, hr⟩ := h.get hx
  have hi : i < xs.length := by
    rcases Nat.lt_or_ge i xs.length with h' | h'
    · exact h'
    · simp [List.getElem?_eq_none h'] at hx
  exact ⟨v, by simp [List.getElem?_range hi, f, hv], hr⟩
theorem ldA_sound' (h : HP F Tg w m L) {L1 : Loc} (hx : Ext L1 L) {T : TypeId} {x y : AV} {v : Value} (hv : VR F Tg w m L x v) (hr : ldA P L1 T x = some y) :
    ∃ b off u, v = .pointer (some ⟨b, off, none⟩) ∧ (loadVar T ⟨b, off, none⟩).run P w = .ok u w ∧ VR F Tg w m L y u := by
  unfold ldA at hr
  split at hr
  case h_2 => cases hr
  rename_i cells hcells
  obtain ⟨b, off, rfl, hat⟩ := rowOf_sound h hx hv hcells
  split at hr
  · rename_i ha
    split at hr
    · rename_i n hn
      split at hr
      · rename_i hle
        cases hr
        have hle := Nat.le_of_ble_eq_true hle
        obtain ⟨cs, hrun, hcs⟩ := run_loadCells' (P := P) (hat.take n)
        rw [List.length_take, Nat.min_eq_left hle] at hrun
        exact ⟨b, off, .agg cs, rfl, by simp [loadVar, run_isAgg' ha, run_sizeOf' hn, hrun], by simp only [VR]; exact ⟨cs, rfl, hcs⟩⟩
      · cases hr
    · cases hr
  · rename_i ha
    obtain ⟨c, hc, hy⟩ := hat.get hr
    exact ⟨b, off, c, rfl, by simp at hc; simp [loadVar, run_isAgg' ha, hc], hy⟩
  · cases hr
theorem ldA_sound (h : HP F Tg w m L) {L1 : Loc} (hx : Ext L1 L) {T : TypeId} {x y : AV} {v : Value} (hv : VR F Tg w m L x v) (hr : ldA P L1 T x = some y) :
    ∃ u, (Instr.loadAt T v).run P w = .ok u w ∧ VR F Tg w m L y u := by
  obtain ⟨b, off, u, rfl, h1, h2⟩ := ldA_sound' h hx hv hr
  exact ⟨u, by simp [Instr.loadAt, Instr.sureAddr, h1], h2⟩

theorem Ext.livesA {L1 : Loc} (hx : Ext L1 L) {y : AV} {u : Value} (hy : VR F Tg w m L y u) (hl : livesA L1 y = true) : livesA L y = true := by
  cases y <;> simp only [Bx.livesA] at hl ⊢
  case loc k off => obtain ⟨b, hb⟩ := isLive_iff hl; simp only [VR] at hy; rw [hx k b hb hy.1]; rfl
  case osl k => obtain ⟨r, xs, hb⟩ := isTab_iff hl; simp only [VR] at hy; rw [hx k _ hb hy.1]; rfl
  case eloc k i j => obtain ⟨r, xs, hb⟩ := isTab_iff hl; simp only [VR] at hy; rw [hx k _ hb hy.1]; rfl
theorem cellsA_sound {y : AV} {cs : List AV} {u : Value} (hy : VR F Tg w m L y u) (hl : livesA L y = true) (hc : cellsA y = some cs) : VRs F Tg w m L cs u.cells.toList := by
  cases y <;> simp [cellsA] at hc <;> subst hc
  case agg cells => simp only [VR] at hy; obtain ⟨cs, rfl, h⟩ := hy; exact h
  all_goals
    have hcell : u.cells = #[u] := by
      have := oneA_sound (L := L) (w := w) (m := m) (F := F) (Tg := Tg) (v := u) (by rfl) hy hl
      cases u <;> simp [Value.oneCell', Value.cells] at this ⊢
    rw [hcell]; simp only [VRs]; exact ⟨u, [], rfl, hy, rfl⟩

/-- The block of key 'k' is written, from the cell 'off' on. -/
theorem Rel.store (h : Rel F Tg pn N w0 noSh m fr L a w) {k off : Nat} {B B' : Blk} {cs : List AV} (hL : L k = .live B) (hhas : B.has) (hle : off + cs.length ≤ B.cells.length) (hlike : B.like B') (hB' : B'.cells = setsA B.cells off cs) {vs : List Value} (hvs : VRs F Tg w m L cs vs) (hone : ∀ v ∈ vs, v.oneCell' = true) :
    ∃ w', (storeCells ⟨(m k).1, off, none⟩ vs).run P w = .ok () w' ∧ Rel F Tg pn N w0 noSh m fr (upd L k (.live B')) a w' := by
  obtain ⟨hnF, c, t, hb, hsz, hpre⟩ := h.heap k B hL hhas
  have hlen := hpre.length_le
  have hl := hvs.length
  simp only [Array.length_toList] at hlen
  obtain ⟨w', h1, h2, h3, h4, h5, h6, h7⟩ := run_storeCells (P := P) vs c off 0 w hb (by omega) hone
  have hkp : Kept F w w' := ⟨h5, h6, h7, by omega, fun i hi => h4 i (fun e => hnF (e ▸ hi))⟩
  have hk : Keeps F w w' m m L (upd L k (.live B')) := by
    refine ⟨fun b o hb' => hkp.cell hb' o, fun i hi => ?_, fun i b' hi hbl => ?_⟩
    · by_cases e : i = k
      · subst e; simp
      · rw [upd_ne _ _ e]; exact hi
    · by_cases e : i = k
      · subst e; rw [upd_same] at hbl; cases hbl; exact ⟨B, hL, rfl, hlike⟩
      · rw [upd_ne _ _ e] at hbl; exact ⟨b', hbl, rfl, b'.like_refl⟩
  have hli : ∀ i c, (upd L k (.live B')) i = .live c → c.has → ∃ c', L i = .live c' ∧ c'.has := fun i c hc hh => by
    by_cases hi : i = k
    · subst hi; exact ⟨_, hL, hhas⟩
    · rw [upd_ne _ _ hi] at hc; exact ⟨_, hc, hh⟩
  refine ⟨w', h1, h.kept.trans hkp, fun b hb => by have := h.sub b hb; omega, fun i cs' hcs hh => ?_, fun i j c1 c2 hi hb1 hj hb2 => ?_, fun p b' e hb' => (by
    by_cases hk' : LK = k
    · subst hk'; exact h.pin p _ e hL
    · rw [upd_ne _ _ hk'] at hb'; exact h.pin p _ e hb'), h.size, h.defers, fun t => (h.tmps t).keep hk⟩
  · by_cases hi : i = k
    · subst hi
      rw [upd_same] at hcs; cases hcs
      refine ⟨hnF, _, t, h2, by simp [setsC_length, hsz], ?_⟩
      rw [hB']
      simp only [Nat.add_zero]
      exact (hpre.sets off hvs).keep hk
    · rw [upd_ne _ _ hi] at hcs
      obtain ⟨e1, c1, t1, e2, e3, e4⟩ := h.heap i cs' hcs hh
      refine ⟨e1, c1, t1, ?_, e3, e4.keep hk⟩
      rw [h4 _ (fun e => by
        rcases h.inj i k _ _ hcs hh hL hhas e with e' | e' | e'
        · exact hi e'
        · exact e'
        · exact e')]; exact e2
  · obtain ⟨_, hi', hbi⟩ := hli i _ hi hb1
    obtain ⟨_, hj', hbj⟩ := hli j _ hj hb2
    exact h.inj i j _ _ hi' hbi hj' hbj
theorem storeA_sound (h : Rel F Tg pn N w0 noSh m fr L a w) {T : TypeId} {x y : AV} {v u : Value} (hx : VR F Tg w m L x v) (hy : VR F Tg w m L y u) (hr : stA P L T x y = some L') :
    ∃ w', (Instr.storeAt T v u).run P w = .ok () w' ∧ Rel F Tg pn N w0 noSh m fr L' a w' := by
  unfold stA at hr
  split at hr
  case h_2 => cases hr
  rename_i cs hcs
  split at hr
  case h_2 => cases hr
  rename_i n hn
  split at hr
  case h_2 => cases hr
  rename_i hc
  simp only [Bool.and_eq_true, Nat.beq_eq, List.all_eq_true] at hc
  obtain ⟨⟨⟨hsz, hone⟩, hlive⟩, hly⟩ := hc
  have hcu := cellsA_sound hy hly hcs
  have hlen := hcu.length
  have hone' : ∀ v ∈ u.cells.toList, v.oneCell' = true := fun v hv => by
    obtain ⟨i, hi, he⟩ := List.mem_iff_getElem.1 hv
    have hi' : i < cs.length := by omega
    obtain ⟨v', hv', hr'⟩ := hcu.get (List.getElem?_eq_getElem hi')
    rw [List.getElem?_eq_getElem hi] at hv'
    cases hv'
    rw [he] at hr'
    have hm := List.getElem_mem hi'
    exact oneA_sound (hone _ hm) hr' (hlive _ hm)
  simp only [Array.length_toList] at hlen
  split at hr
  · rename_i k off
    split at hr
    · rename_i cells hL
      split at hr
      · rename_i hle
        cases hr
        have hle := Nat.le_of_ble_eq_true hle
        obtain ⟨w', h1, h2⟩ := h.store (P := P) (B' := .av (setsA cells off cs)) hL trivial hle trivial rfl hcu hone'
        simp only [VR] at hx
        refine ⟨w', ?_, h2⟩
        rw [hx.2 _ hL]
        simp [Instr.storeAt, Instr.sureAddr, storeVar, run_sizeOf' hn, hsz, hlen, h1]
      · cases hr
    · cases hr
  · rename_i k i j
    split at hr
    · rename_i r xs hL
      split at hr
      · rename_i row hle hrow
        cases hr
        have hle := Nat.le_of_ble_eq_true hle
        simp only [VR] at hx
        obtain ⟨e, hi, hj⟩ := hx.2 _ _ hL
        have henc := r.dec_enc _ _ hrow
        have hg : xs.getD i r.z = xs[i] := by rw [List.getD_eq_getElem?_getD, List.getElem?_eq_getElem hi]; rfl
        rw [hg] at henc
        have hb : i * r.w + j + cs.length ≤ (rowsA r xs).length := by
          rw [rowsA_len]
          have : (i + 1) * r.w ≤ xs.length * r.w := Nat.mul_le_mul_right _ hi
          rw [Nat.succ_mul] at this
          omega
        obtain ⟨w', h1, h2⟩ := h.store (P := P) (B' := .tab r (xs.set i row)) hL (fun e => by rw [e] at hi; simp at hi) hb ⟨rfl, by simp⟩ (rowsA_sets r hi hle henc) hcu hone'
        refine ⟨w', ?_, h2⟩
        rw [e]
        simp [Instr.storeAt, Instr.sureAddr, storeVar, run_sizeOf' hn, hsz, hlen, h1]
      · cases hr
    · cases hr
  · cases hr

theorem offA_sound {L1 : Loc} (hE : Ext L1 L) {x y : AV} {v : Value} {n : Nat} (hx : VR F Tg w m L x v) (h : offA L1 x n = some y) : ∃ b off, v = .pointer (some ⟨b, off, none⟩) ∧ VR F Tg w m L y (.pointer (some ⟨b, off + n, none⟩)) := by
  unfold offA at h
  split at h
  · rename_i k off
    split at h
    · rename_i b hb
      cases h
      simp only [VR] at hx ⊢
      have hL := hE k _ hb hx.1
      refine ⟨(m k).1, off, hx.2 _ hL, hx.1, fun b' _ => rfl⟩
    · cases h
  · cases h
    simp only [VR] at hx ⊢
    obtain ⟨_, b, off, e, hb, hc⟩ := hx
    exact ⟨b, off, e, trivial, b, off + n, rfl, hb, hc.drop n⟩
  · rename_i k i j
    split at h
    · rename_i r xs hb
      split at h
      · rename_i hlt
        cases h
        simp only [VR] at hx ⊢
        have hL := hE k _ hb hx.1
        obtain ⟨e, hi, hj⟩ := hx.2 _ _ hL
        refine ⟨_, _, e, hx.1, fun r' ys hy => ?_⟩
        rw [hL] at hy; cases hy
        exact ⟨by rw [Nat.add_assoc], hi, by simpa using hlt⟩
      · cases h
    · cases h
  · split at h
    · rename_i hlt
      cases h
      simp only [VR] at hx ⊢
      obtain ⟨hi, hj, b, off, e, hb, hc⟩ := hx
      exact ⟨b, _, e, hi, by simpa using hlt, b, off, by simp only [Nat.add_assoc], hb, hc⟩
    · cases h
  · cases h
theorem ptrA_sound {L1 : Loc} (hE : Ext L1 L) {x : AV} {v : Value} (h : ptrA L1 x = true) (hx : VR F Tg w m L x v) : ∃ b off, v = .pointer (some ⟨b, off, none⟩) := by
  cases x <;> simp only [ptrA, Bool.false_eq_true] at h <;> simp only [VR] at hx
  case loc k off => obtain ⟨b, hb⟩ := isLive_iff h; exact ⟨_, _, hx.2 _ (hE k _ hb hx.1)⟩
  case ref => obtain ⟨_, b, off, rfl, _⟩ := hx; exact ⟨b, off, rfl⟩
  case eloc k i j => obtain ⟨r, xs, hb⟩ := isTab_iff h; exact ⟨_, _, (hx.2 _ _ (hE k _ hb hx.1)).1⟩
  case eref => obtain ⟨_, _, b, off, e, _⟩ := hx; exact ⟨b, _, e⟩
theorem fieldA_sound {L1 : Loc} (hE : Ext L1 L) {S : TypeId} {x y : AV} {f : Nat} {v : Value} (hx : VR F Tg w m L x v) (hr : fieldA P L1 S x f = some y) : ∃ u, (Instr.fieldAt S v f).run P w = .ok u w ∧ VR F Tg w m L y u := by
  unfold fieldA at hr
  split at hr
  · rename_i fields hu
    split at hr
    · rename_i fd hf
      split at hr
      · rename_i n hn
        obtain ⟨b, off, rfl, hy⟩ := offA_sound hE hx hr
        refine ⟨_, ?_, hy⟩
        simp [Instr.fieldAt, run_underlying hu, hf, Instr.sureAddr, fieldPlace, run_sizeOf' hn, addr_add]
      · cases hr
    · cases hr
  · cases hr
end
end Go.Bx
