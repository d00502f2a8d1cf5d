/- The abstract operations: definitions; each against the model's. -/
import Derived.Test.YtkjdcbgliekjnaaAxO
namespace Go.Ax
open Go.RowKit (Below)

section
variable {B B0 N : Nat} {Tg Tg' : AV → Value → Prop} {w0 w w' : World} {m m' mr : Mp} {L L' : Loc} {fr : Fr} {a : Act}

theorem of_tagged {x : AV} {v : Value} (h : tagged (tgOf B Tg w m L) x v) : VR B Tg w m L x v := by
  cases x <;> first | exact h | simp [VR]
mutual
theorem imp_sound (t : Nat) (hk : Keeps B w w' m m' L L') : ∀ (n : Nat) (x : AV) (v : Value), RV B0 (tgOf B Tg w m L) w' mr x v → (∀ p ∈ owns n x, m' (t * 4 + p.1) = mr p.1) → VR B Tg w' m' L' (imp n t L' x) v
  | 0, x, v, h, _ => by
    simp only [imp, pl]
    split
    · rename_i hp
      cases x <;> simp [plain] at hp <;> (simp only [RV, VR] at h ⊢; try exact h)
    · simp [VR]
  | n + 1, x, v, h, ho => by
    cases x with
    | own i e len cells =>
      have hm : m' (t * 4 + i) = mr i := ho (i, cells) (by simp [owns])
      simp only [RV, imp, VR] at h ⊢
      obtain ⟨_, hl, _, _, cap, hv, h1, h2⟩ := h
      refine ⟨Nat.le_refl _, fun _ => ⟨cap, ?_, h1, ?_⟩⟩
      · rw [hm]; exact hv
      · rw [hm]; omega
    | ref cells t' => simp only [RV, imp] at h ⊢; exact (of_tagged h).keep hk
    | sli e len cells t' => simp only [RV, imp] at h ⊢; exact (of_tagged h).keep hk
    | agg cells =>
      simp only [RV, imp, VR] at h ⊢
      obtain ⟨cs, e, hc⟩ := h
      exact ⟨cs, e, imps_sound t hk n _ _ hc (by simpa [owns] using ho)⟩
    | tup vs =>
      simp only [RV, imp, VR] at h ⊢
      obtain ⟨cs, e, hc⟩ := h
      exact ⟨cs, e, imps_sound t hk n _ _ hc (by simpa [owns] using ho)⟩
    | fn f caps =>
      simp only [RV, imp, VR] at h ⊢
      obtain ⟨cs, e, hc⟩ := h
      exact ⟨cs, e, imps_sound' _ _ hc⟩
    | loc k g off => simp [imp, VR]
    | lsl k g off len e => simp [imp, VR]
    | undef => simp [imp, VR]
    | skip => simp only [RV, imp, VR] at h ⊢; exact h
    | bool b => simp only [RV, imp, VR] at h ⊢; exact h
    | int k n => simp only [RV, imp, VR] at h ⊢; exact h
    | flt k x => simp only [RV, imp, VR] at h ⊢; exact h
    | fbits x => simp only [RV, imp, VR] at h ⊢; exact h
    | cpx k x y => simp only [RV, imp, VR] at h ⊢; exact h
    | nilsl => simp only [RV, imp, VR] at h ⊢; exact h
theorem imps_sound (t : Nat) (hk : Keeps B w w' m m' L L') : ∀ (n : Nat) (xs : List AV) (vs : List Value), RVs B0 (tgOf B Tg w m L) w' mr xs vs → (∀ p ∈ xs.flatMap (owns n), m' (t * 4 + p.1) = mr p.1) → VRs B Tg w' m' L' (xs.map (imp n t L')) vs
  | _, [], _, h, _ => by simpa [RVs, VRs] using h
  | n, x :: xs, _, h, ho => by
    simp only [RVs, List.map_cons, VRs] at h ⊢
    obtain ⟨v, vs', rfl, h1, h2⟩ := h
    exact ⟨v, vs', rfl, imp_sound t hk n x v h1 (fun p hp => ho p (by simp [hp])), imps_sound t hk n xs vs' h2 (fun p hp => ho p (by simp only [List.flatMap_cons, List.mem_append]; exact .inr hp))⟩
theorem imps_sound' : ∀ (xs : List AV) (vs : List Value), RVs B0 (tgOf B Tg w m L) w' mr xs vs → VRs B Tg w' m' L' (xs.map fun _ => AV.undef) vs
  | [], _, h => by simpa [RVs, VRs] using h
  | x :: xs, _, h => by
    simp only [RVs, List.map_cons, VRs] at h ⊢
    obtain ⟨v, vs', rfl, h1, h2⟩ := h
    exact ⟨v, vs', rfl, by simp [VR], imps_sound' xs vs' h2⟩
end

/-- An operation that yields, in whatever walk. -/
def Yields (P : Program) (o : Oper) (a : Act) (w : World) (R : Value → World → Prop) : Prop :=
  ∀ (K : Act → World → Prop) (Q : Exit → Act → World → Prop), (∀ v w', R v w' → K (a.put o.dst v) w') → o.wp P a w K Q
theorem Yields.value {P : Program} {o : Oper} {R : Value → World → Prop} {v : Value} (h : (execOp a.eval o).run P w = .ok (.value v) w') (hR : R v w') : Yields P o a w R := fun K Q hK => by
  simp only [Oper.wp, h, Oper.upon]; exact hK v w' hR
theorem Yields.skip {P : Program} {o : Oper} {R : Value → World → Prop} (h : (execOp a.eval o).run P w = .ok .skip w') (hR : R Go.undef w') : Yields P o a w R := fun K Q hK => by
  simp only [Oper.wp, h, Oper.upon]; exact hK _ w' hR
theorem Yields.mono {P : Program} {o : Oper} {R R' : Value → World → Prop} (h : Yields P o a w R) (hR : ∀ v w', R v w' → R' v w') : Yields P o a w R' :=
  fun K Q hK => h K Q fun v w' r => hK v w' (hR v w' r)

/-- A call of a function value. -/
theorem Yields.call {P : Program} {dst : Option Tmp} {x : Operand} {xs : Array Operand} {ats : Array TypeId} {ty : TypeId} {pos : String} {after : Array Edge} {guard : Option (Nat × Bool)} {f : FuncId} {cs : Array Value} {R : Value → World → Prop}
    (hx : a.eval x = .func (.func f) #[] cs) (h : Invokes P f (xs.map a.eval ++ cs) w R) :
    Yields P { dst, op := .call { callee := .value x, args := xs, argTypes := ats }, type := ty, pos, after, guard } a w R := by
  have hrun : (execOp a.eval { dst, op := .call { callee := .value x, args := xs, argTypes := ats }, type := ty, pos, after, guard }).run P w = (callFunc f (xs.map a.eval ++ cs)).run P w := by
    simp [execOp, resolve, Deferred.ofValue, hx, invoke]
  intro K Q hK
  unfold Invokes at h
  unfold Oper.wp
  rw [hrun]
  generalize (callFunc f (xs.map a.eval ++ cs)).run P w = r at h
  cases r with
  | halt h' w' => simp at h
  | ok n w1 =>
    cases n <;> simp only at h <;> simp only [Oper.upon]
    case value v => exact hK v w1 h
    case enter g as =>
      exact h.mono fun e w' ⟨v, he, hR⟩ => by subst he; exact hK v w' hR
end

/-- Laying the parts of a composite. -/
def setsA (cells : List AV) (off : Nat) : List AV → List AV
  | [] => cells
  | c :: cs => setsA (cells.set off c) (off + 1) cs
/-- The cells of a value. -/
def cellsA : AV → Option (List AV)
  | .agg cs => some cs
  | .undef | .skip | .tup _ | .own .. => none
  | x => some [x]
/-- A value of one cell. -/
def oneA : AV → Bool
  | .undef | .skip | .tup _ | .agg _ | .own .. => false
  | _ => true
def offA (x : AV) (n : Nat) : AV :=
  match x with
  | .loc k g off => .loc k g (off + n)
  | .ref cells _ => .ref (cells.drop n) .undef
  | _ => .undef
/-- One cell behind a pointer. -/
def rd1 (L : Loc) : AV → Option AV
  | .ref cells _ => cells[0]?
  | .loc k g off => if (L k).1 = g then (match (L k).2 with | some cells => cells[off]? | none => none) else none
  | _ => none
/-- Some cells behind a pointer. -/
def rdN (L : Loc) (n : Nat) : AV → Option (List AV)
  | .ref cells _ => if n ≤ cells.length then some (cells.take n) else none
  | .loc k g off => if (L k).1 = g then (match (L k).2 with | some cells => if off + n ≤ cells.length then some ((cells.drop off).take n) else none | none => none) else none
  | _ => none
def aggT (P : Program) (T : TypeId) : Option Bool :=
  match P.underlying T with
  | some (.struct _) | some (.array _ _) => some true
  | some _ => some false
  | none => none
def ldA (P : Program) (L : Loc) (T : TypeId) (x : AV) : Option AV :=
  match aggT P T with
  | some true => match szOf P T with
    | some n => (rdN L n x).map .agg
    | none => none
  | some false => rd1 L x
  | none => none
def stA (P : Program) (L : Loc) (T : TypeId) (x y : AV) : Option Loc :=
  match x with
  | .loc k g off => if (L k).1 = g then (match (L k).2 with
    | some cells => match cellsA y with
      | some cs => if szOf P T = some cs.length ∧ off + cs.length ≤ cells.length ∧ cs.all oneA = true then some (upd L k (g, some (setsA cells off cs))) else none
      | none => none
    | none => none) else none
  | _ => none

section
variable {B B0 N : Nat} {Tg Tg' : AV → Value → Prop} {w0 w w' : World} {m m' mr : Mp} {L L' : Loc} {fr : Fr} {a : Act} {P : Program}

theorem addr_add (b off n : Nat) : (⟨b, off, none⟩ : Addr).add n = ⟨b, off + n, none⟩ := by
  unfold Addr.add; split
  · rename_i h; rw [h]; rfl
  · rfl
theorem run_sizeOf' {T : TypeId} {n : Nat} (h : szOf P T = some n) : (sizeOf T).run P w = .ok n w := by
  unfold szOf at h
  cases hi : P.info? T with
  | none => simp [hi] at h
  | some i => simp [hi] at h; simp [sizeOf, typeInfo, hi, h]
theorem run_zeroValue' {T : TypeId} {v : Value} (h : zeroOf P T = some v) : (zeroValue T).run P w = .ok v w := by
  unfold zeroOf at h
  cases hi : P.info? T with
  | none => simp [hi] at h
  | some i => simp [hi] at h; simp [zeroValue, typeInfo, hi, h]
theorem run_isAgg' {T : TypeId} {b : Bool} (h : aggT P T = some b) : (isAgg T).run P w = .ok b w := by
  unfold aggT at h
  cases hu : P.underlying T with
  | none => simp [hu] at h
  | some d =>
    cases d <;> simp [hu] at h <;> subst h <;> simp [isAgg, run_underlying hu]

theorem rd1_sound (h : HP B Tg w m L) {L1 : Loc} (hx : Ext L1 L) {x y : AV} {v : Value} (hv : VR B Tg w m L x v) (hr : rd1 L1 x = some y) : ∃ b off c, v = .pointer (some ⟨b, off, none⟩) ∧ w.cell? ⟨b, off, none⟩ = some c ∧ VR B Tg w m L y c := by
  unfold rd1 at hr
  split at hr
  · simp only [VR] at hv
    obtain ⟨_, b, off, rfl, _, hc⟩ := hv
    obtain ⟨c, hc1, hc2⟩ := hc.get hr
    exact ⟨b, off, c, rfl, by simpa using hc1, hc2⟩
  · rename_i k g off
    split at hr
    · rename_i hg
      split at hr
      · rename_i cells hL
        simp only [VR] at hv
        have hE := hx k cells hL (by omega)
        rw [← hE] at hg hL
        obtain ⟨_, c, t, h2, h3, h4⟩ := h k cells hL
        obtain ⟨u, hu, hr'⟩ := (h4.at h2).get hr
        exact ⟨(m k).1, off, u, hv.2 hg, by simpa using hu, hr'⟩
      · cases hr
    · cases hr
  · cases hr
theorem rdN_sound (h : HP B Tg w m L) {L1 : Loc} (hx : Ext L1 L) {x : AV} {ys : List AV} {n : Nat} {v : Value} (hv : VR B Tg w m L x v) (hr : rdN L1 n x = some ys) :
    ∃ b off, v = .pointer (some ⟨b, off, none⟩) ∧ ys.length = n ∧ VRat B Tg w m L ys b off := by
  unfold rdN at hr
  split at hr
  · split at hr
    · rename_i hle
      simp only [VR] at hv
      obtain ⟨_, b, off, rfl, _, hc⟩ := hv
      cases hr
      exact ⟨b, off, rfl, by simp; omega, hc.take n⟩
    · cases hr
  · rename_i k g off
    split at hr
    · rename_i hg
      split at hr
      · rename_i cells hL
        split at hr
        · rename_i hle
          simp only [VR] at hv
          have hE := hx k cells hL (by omega)
          rw [← hE] at hg hL
          obtain ⟨_, c, t, h2, h3, h4⟩ := h k cells hL
          cases hr
          refine ⟨(m k).1, off, hv.2 hg, by simp; omega, ?_⟩
          have := ((h4.at h2).drop off).take n
          rwa [Nat.zero_add] at this
        · cases hr
      · cases hr
    · cases hr
  · cases hr
theorem run_loadCells' {xs : List AV} {b off : Nat} (h : VRat B Tg w m L xs b off) : ∃ cs : Array Value, (loadCells ⟨b, off, none⟩ xs.length).run P w = .ok cs w ∧ VRs B Tg w m L xs cs.toList := by
  let f : Nat → Value := fun j => (w.cell? ⟨b, off + j, none⟩).getD Go.undef
  have hf : ∀ j, j < xs.length → w.cell? ((⟨b, off, none⟩ : Addr).add j) = some (f j) := fun j hj => by
    obtain ⟨v, hv, _⟩ := h.get (List.getElem?_eq_getElem hj)
    rw [addr_add]; simp [f, hv]
  refine ⟨_, run_loadCells w _ _ f hf, VRs.of_get (by simp) fun i x hx => ?_⟩
  obtain ⟨v, hv, hr⟩ := h.get hx
  have hi : i < xs.length := by
    rcases Nat.lt_or_ge i xs.length with h' | h'
    · exact h'
    · simp [List.getElem?_eq_none h'] at hx
  exact ⟨v, by simp [List.getElem?_range hi, f, hv], hr⟩
theorem ldA_sound' (h : HP B Tg w m L) {L1 : Loc} (hx : Ext L1 L) {T : TypeId} {x y : AV} {v : Value} (hv : VR B Tg w m L x v) (hr : ldA P L1 T x = some y) :
    ∃ b off u, v = .pointer (some ⟨b, off, none⟩) ∧ (loadVar T ⟨b, off, none⟩).run P w = .ok u w ∧ VR B Tg w m L y u := by
  unfold ldA at hr
  split at hr
  · rename_i ha
    split at hr
    · rename_i n hn
      cases hd : rdN L1 n x with
      | none => simp [hd] at hr
      | some ys =>
        simp [hd] at hr; subst hr
        obtain ⟨b, off, rfl, hl, hat⟩ := rdN_sound h hx hv hd
        obtain ⟨cs, hrun, hcs⟩ := run_loadCells' (P := P) hat
        rw [hl] at hrun
        exact ⟨b, off, .agg cs, rfl, by simp [loadVar, run_isAgg' ha, run_sizeOf' hn, hrun], by simp only [VR]; exact ⟨cs, rfl, hcs⟩⟩
    · cases hr
  · rename_i ha
    obtain ⟨b, off, c, rfl, hc, hy⟩ := rd1_sound h hx hv hr
    exact ⟨b, off, c, rfl, by simp [loadVar, run_isAgg' ha, hc], hy⟩
  · cases hr
theorem ldA_sound (h : HP B Tg w m L) {L1 : Loc} (hx : Ext L1 L) {T : TypeId} {x y : AV} {v : Value} (hv : VR B Tg w m L x v) (hr : ldA P L1 T x = some y) :
    ∃ u, (Instr.loadAt T v).run P w = .ok u w ∧ VR B Tg w m L y u := by
  obtain ⟨b, off, u, rfl, h1, h2⟩ := ldA_sound' h hx hv hr
  exact ⟨u, by simp [Instr.loadAt, Instr.sureAddr, h1], h2⟩
end
end Go.Ax
