/- The executor: that one operation does what it says. -/
import Derived.Test.YtkjdcbgliekjnaaAxU
namespace Go.Ax
open Go.RowKit (Below)
section
variable {B B0 N : Nat} {Tg Tg' : AV → Value → Prop} {w0 w w' : World} {m m' mr : Mp} {L L' : Loc} {fr : Fr} {a : Act} {P : Program}

theorem builtinA_sound {X : Cx} (h : Rel B Tg N w0 m fr L a w) {L1 : Loc} (hE : Ext L1 L) {b : Builtin} {ats : Array TypeId} {t : Nat} {ty : TypeId} {cs : Array Bool} {args : List AV} {cargs : Array Value} (hargs : VRs B Tg w m L args cargs.toList)
    {K : AV → List (Nat × List AV) → Prop} (hc : builtinA X L1 b ats args K) :
    ∃ y os, K y os ∧ ∃ v w', (builtin b ats ty cs cargs).run X.P w = .ok (.value v) w' ∧ After B Tg N w0 fr a t L y os v w' := by
  obtain ⟨l⟩ := cargs
  simp only at hargs
  unfold builtinA at hc
  split at hc
  · rename_i x
    simp only [VRs] at hargs
    obtain ⟨v, vs', rfl, hx, rfl⟩ := hargs
    split at hc
    · rename_i T hT
      split at hc
      · rename_i e n hu hn
        refine ⟨_, _, hc, .int .i64 n, w, ?_, .same h (by simp [VR])⟩
        have hv : ∃ p cap, v = .slice p n cap := by
          cases x <;> simp only [lenA] at hn <;> try (cases hn; done)
          case nilsl => cases hn; simp only [VR] at hx; obtain ⟨q, rfl⟩ := hx; exact ⟨q, 0, rfl⟩
          case lsl k g off len e =>
            split at hn
            · rename_i hg
              cases hn; simp only [VR] at hx
              obtain ⟨cap, rfl, _⟩ := hx.2 (hE.lives hg hx.1).1
              exact ⟨_, cap, rfl⟩
            · cases hn
          case sli e len cells t =>
            cases hn; simp only [VR] at hx
            obtain ⟨_, _, _, ⟨rfl, hl⟩ | ⟨b', off, cap, rfl, _⟩⟩ := hx
            · subst hl; exact ⟨none, 0, rfl⟩
            · exact ⟨_, cap, rfl⟩
        obtain ⟨p, cap, rfl⟩ := hv
        simp [builtin, Builtin.len_, hT, run_underlying hu, goInt]
      · exact hc.elim
    · exact hc.elim
  · rename_i k x _y
    simp only [VRs] at hargs
    obtain ⟨v, vs', rfl, hx, rfl⟩ := hargs
    simp only [VR] at hx
    obtain ⟨p, q, rfl, hp, hq⟩ := hx
    exact ⟨_, _, hc, .float k p, w, by simp only [BigFrame.builtin_real, Sem.run_bind, run_real, Result.andThen_ok, Sem.run_pure], .same h (by simp only [VR]; exact ⟨p, rfl, hp⟩)⟩
  · rename_i k _x y
    simp only [VRs] at hargs
    obtain ⟨v, vs', rfl, hx, rfl⟩ := hargs
    simp only [VR] at hx
    obtain ⟨p, q, rfl, hp, hq⟩ := hx
    exact ⟨_, _, hc, .float k q, w, by simp only [BigFrame.builtin_imag, Sem.run_bind, run_imag, Result.andThen_ok, Sem.run_pure], .same h (by simp only [VR]; exact ⟨q, rfl, hq⟩)⟩
  · rename_i k x k' y
    simp only [VRs] at hargs
    obtain ⟨v, vs', rfl, hx, u, us', rfl, hy, rfl⟩ := hargs
    obtain ⟨rfl, hK⟩ := hc
    simp only [VR] at hx hy
    obtain ⟨p, rfl, hp⟩ := hx
    obtain ⟨q, rfl, hq⟩ := hy
    exact ⟨_, _, hK, .complex k p q, w, by simp only [BigFrame.builtin_complex, Sem.run_bind, run_complex, Result.andThen_ok, Sem.run_pure], .same h (by simp only [VR]; exact ⟨p, q, rfl, hp, hq⟩)⟩
  · rename_i k x k' y
    simp only [VRs] at hargs
    obtain ⟨v, vs', rfl, hx, u, us', rfl, hy, rfl⟩ := hargs
    obtain ⟨rfl, hK⟩ := hc
    simp only [VR] at hx hy
    obtain ⟨p, rfl, hp⟩ := hx
    obtain ⟨q, rfl, hq⟩ := hy
    obtain ⟨r, d, h1, h2⟩ := fmaxA_sound (P := X.P) (w := w) hp hq
    exact ⟨_, _, hK, .float k r, { w with drawn := d }, by simp [builtin, Builtin.max_, h1], .draw h (by simp only [VR]; exact ⟨r, rfl, h2⟩)⟩
  · exact hc.elim

theorem range0 : Array.range 0 = #[] := Array.eq_empty_of_size_eq_zero (by simp)
/-- AN OPERATION DOES WHAT IT SAYS. -/
theorem qOp_sound {X : Cx} (hG : ∀ f ∈ X.cs, Good X.P X.env f) (h : Rel B Tg N w0 m fr L a w) {L1 : Loc} (hE : Ext L1 L) {o : Oper} (ht : ∀ c, c < 4 → (L (o.dst.getD 0 * 4 + c)).1 = (L1 (o.dst.getD 0 * 4 + c)).1)
    {K : AV → List (Nat × List AV) → Prop} (hq : qOp X L1 o fr K) :
    ∃ y os, K y os ∧ Yields X.P o a w (After B Tg N w0 fr a (o.dst.getD 0) L y os) := by
  obtain ⟨dst, op, type, pos, after, guard⟩ := o
  unfold qOp at hq
  cases op <;> simp only at hq
  case move x => exact ⟨_, _, hq, .value (w' := w) (v := a.eval x) (by simp [execOp]) (.same h (h.ev x))⟩
  case assign x => exact ⟨_, _, hq, .value (w' := w) (v := a.eval x) (by simp [execOp]) (.same h (h.ev x))⟩
  case pick c x y =>
    have hc := h.ev c
    split at hq
    · rename_i p hp
      rw [hp] at hc
      simp only [VR] at hc
      replace hq := br_elim hq
      cases p with
      | true => exact ⟨_, _, hq.1 rfl, .value (w' := w) (v := a.eval x) (by simp [execOp, hc, asBool]) (.same h (h.ev x))⟩
      | false => exact ⟨_, _, hq.2 rfl, .value (w' := w) (v := a.eval y) (by simp [execOp, hc, asBool]) (.same h (h.ev y))⟩
    · exact hq.elim
  case alloc T =>
    split at hq
    · rename_i z hz
      rw [← ht 0 (by decide)] at hq
      refine ⟨_, _, hq, .value (w' := w.alloc (.cells z.cells T)) ?_ (.alloc h T (ofCells_sound _))⟩
      simp [execOp, Instr.alloc, newVar, newRow, run_zeroValue' hz]
    · exact hq.elim
  case box T x =>
    split at hq
    · rename_i cs hl hcs
      rw [← ht 0 (by decide)] at hq
      have hcv := cellsA_sound (h.ev x) (hE.livesA (h.ev x) hl) hcs
      refine ⟨_, _, hq, .value (w' := w.alloc (.cells (a.eval x).cells T)) ?_ (.alloc h T hcv)⟩
      simp [execOp, Instr.box, newVar, newRow]
    · exact hq.elim
  case build T parts =>
    have hpp := parts_of h hE parts.toList
    split at hq
    · rename_i z fields hz hu
      split at hq
      · rename_i ps hps
        split at hq
        · rename_i cs hl hf
          obtain ⟨c', h1, h2⟩ := fill_sound _ (hpp hl) (ofCells_sound z.cells.toList) hf
          have hpl := places_run (P := X.P) (w := w) fields.toList ps hps
          refine ⟨_, _, hq, .value (w' := w) (v := .agg c') ?_ (.same h (by simp only [VR]; exact ⟨c', rfl, h2⟩))⟩
          have e : (fields.mapM (m := Sem) fun f => do pure (f.offset, ← sizeOf f.type)).run X.P w = .ok ps.toArray w := by
            rw [Array.mapM_eq_mapM_toList]
            simp only [Sem.run_map, hpl, Result.andThen_ok]
          have e2 : (parts.map fun p => (p.1, a.eval p.2)).toList = parts.toList.map fun p => (p.1, a.eval p.2) := by simp
          have e3 : (fun (i : Nat) => (ps.toArray[i]? : Option (Nat × Nat))) = fun (i : Nat) => ps[i]? := by funext i; simp
          simp only [execOp, Instr.build, Sem.run_bind, run_zeroValue' hz, Result.andThen_ok, run_underlying hu, e, e2, e3, h1, Sem.run_pure]
        · exact hq.elim
      · exact hq.elim
    · rename_i z n elem hz hu
      split at hq
      · rename_i e he
        split at hq
        · rename_i cs hl hf
          obtain ⟨c', h1, h2⟩ := fill_sound _ (hpp hl) (ofCells_sound z.cells.toList) hf
          refine ⟨_, _, hq, .value (w' := w) (v := .agg c') ?_ (.same h (by simp only [VR]; exact ⟨c', rfl, h2⟩))⟩
          have e2 : (parts.map fun p => (p.1, a.eval p.2)).toList = parts.toList.map fun p => (p.1, a.eval p.2) := by simp
          simp only [execOp, Instr.build, Sem.run_bind, run_zeroValue' hz, Result.andThen_ok, run_underlying hu, run_sizeOf' he, e2, h1, Sem.run_pure]
        · exact hq.elim
      · exact hq.elim
    · exact hq.elim
  case buildSlice T len parts =>
    have hpp := parts_of h hE parts.toList
    split at hq
    · rename_i elem hu
      split at hq
      · rename_i e z he hz
        split at hq
        · rename_i h0
          obtain ⟨rfl, hp0⟩ := h0
          have hp : parts = #[] := Array.eq_empty_of_size_eq_zero hp0
          subst hp
          refine ⟨_, _, hq, .value (w' := w.alloc (.cells #[] elem)) (v := .slice (some ⟨w.heap.size, 0, none⟩) 0 0) ?_ ⟨m, h.world ((Below.refl _ _).alloc (Nat.le_refl _) _), by simp [VR]⟩⟩
          simp [execOp, Instr.buildSlice, run_underlying hu, run_sizeOf' he, Instr.fill, newRow, range0]
        · split at hq
          · rename_i hle
            split at hq
            · rename_i cs hl hf
              rw [← ht 0 (by decide)] at hq
              have hzs := zerosA_sound (B := B) (Tg := Tg) (w := w) (m := m) (L := L) z (len * e)
              obtain ⟨c', h1, h2⟩ := fill_sound _ (hpp hl) hzs hf
              have hlen : c'.size = len * e := by
                have := h2.length
                have h3 : ∀ (place : Nat → Option (Nat × Nat)) (ps : List (Nat × AV)) (cells cells' : List AV), fillA place cells ps = some cells' → cells'.length = cells.length := by
                  intro place ps
                  induction ps with
                  | nil => intro c c' h; simp only [fillA] at h; cases h; rfl
                  | cons p ps ih =>
                    intro c c' h
                    obtain ⟨i, x⟩ := p
                    simp only [fillA] at h
                    split at h
                    · cases h
                    · split at h
                      · split at h
                        · rw [ih _ _ h, setsA_length]
                        · cases h
                      · cases h
                have h4 := h3 _ _ _ _ hf
                have h5 : (zerosA z (len * e)).length = len * e := by unfold zerosA; split <;> simp
                simp only [Array.length_toList] at this
                omega
              refine ⟨_, _, hq, .value (w' := w.alloc (.cells c' elem)) (v := .slice (some ⟨w.heap.size, 0, none⟩) len len) ?_ (.allocSlice h elem h2 (Nat.le_refl _) (by omega))⟩
              have e2 : (parts.map fun p => (p.1, a.eval p.2)).toList = parts.toList.map fun p => (p.1, a.eval p.2) := by simp
              have n1 : ¬ (len * e > 2 ^ 24) := by omega
              have n2 : ¬ (len * e = 0) := by omega
              simp only [execOp, Instr.buildSlice, Sem.run_bind, run_underlying hu, Result.andThen_ok, run_sizeOf' he, if_neg n1, if_neg n2, run_zeroValue' hz, e2, h1, newRow, run_newObj, Sem.run_pure, pure_bind]
              rfl
            · exact hq.elim
          · exact hq.elim
      · exact hq.elim
    · exact hq.elim
  case load T x =>
    split at hq
    · rename_i y hy
      obtain ⟨u, h1, h2⟩ := ldA_sound (P := X.P) h.heap hE (h.ev x) hy
      exact ⟨_, _, hq, .value (w' := w) (v := _) (by simp [execOp, h1]) (.same h h2)⟩
    · exact hq.elim
  case nilCheck x =>
    split at hq
    · rename_i hp
      obtain ⟨b, off, e⟩ := ptrA_sound hE hp (h.ev x)
      refine ⟨_, _, hq, .value (w' := w) (v := a.eval x) ?_ (.same h (h.ev x))⟩
      simp [execOp, e]
    · exact hq.elim
  case binOp op T x y yT =>
    split at hq
    · rename_i z hz
      obtain ⟨d, r, h1, h2⟩ := binA_sound (w := w) (h.ev x) (h.ev y) hz
      obtain ⟨g1, g2⟩ := binA_scalar (h.ev x) hz
      exact ⟨_, _, hq, .value (w' := { w with drawn := d }) (v := r) (by simp [execOp, run_eqGuard g1 g2, h1]) (.draw h h2)⟩
    · exact hq.elim
  case unOp op T x =>
    split at hq
    · rename_i z hz
      obtain ⟨r, h1, h2⟩ := unA_sound (P := X.P) (w := w) (h.ev x) hz
      exact ⟨_, _, hq, .value (w' := w) (v := r) (by simp [execOp, h1]) (.same h h2)⟩
    · exact hq.elim
  case convert s d x =>
    split at hq
    · rename_i z hz
      obtain ⟨d, r, h1, h2⟩ := cvA_sound (w := w) (h.ev x) hz
      exact ⟨_, _, hq, .value (w' := { w with drawn := d }) (v := r) (by simp [execOp, h1]) (.draw h h2)⟩
    · exact hq.elim
  case makeFunc fn first caps =>
    cases fn <;> simp only at hq
    case func f =>
      split at hq
      · rename_i hf
        have hf' : first = #[] := Array.toList_eq_nil_iff.1 hf
        subst hf'
        refine ⟨_, _, hq, .value (w' := w) (v := .func (.func f) #[] (caps.map a.eval)) (by simp [execOp, Instr.makeFunc]) (.same h (by simp only [VR]; exact ⟨_, rfl, by simpa using h.evs caps.toList⟩))⟩
      · exact hq.elim
  case makeSlice T l c =>
    split at hq
    · rename_i elem n n' hu hl hc
      split at hq
      · rename_i e z bytes he hz hb
        obtain ⟨⟨h1, h2, h3⟩, h4, hK⟩ := hq
        rw [← ht 0 (by decide)] at hK
        have hvl := h.ev l
        have hvc := h.ev c
        rw [hl] at hvl
        rw [hc] at hvc
        simp only [VR] at hvl hvc
        have hzs := zerosA_sound (B := B) (Tg := Tg) (w := w) (m := m) (L := L) z (n'.toNat * e)
        have hinfo : ∃ i, X.P.info? elem = some i ∧ i.bytes = bytes := by
          cases hi : X.P.info? elem with
          | none => simp [hi] at hb
          | some i => simp [hi] at hb; exact ⟨i, rfl, hb⟩
        obtain ⟨i, hi, hib⟩ := hinfo
        refine ⟨_, _, hK, .value (w' := w.alloc (.cells ((Array.range (n'.toNat * e)).map (z.cells[· % z.cells.size]!)) elem)) (v := .slice (some ⟨w.heap.size, 0, none⟩) n.toNat n'.toNat) ?_ (.allocSlice h elem hzs (by omega) (by simp))⟩
        have w1 : IntKind.i64.wrap n = n := IntWalk.i64_in _ (by omega)
        have w2 : IntKind.i64.wrap n' = n' := IntWalk.i64_in _ (by omega)
        have hmul : (bytes : Int) * n' ≤ 1024 * 67108864 := by
          have h5 : (bytes : Int) ≤ 1024 := by omega
          exact Int.le_trans (Int.mul_le_mul_of_nonneg_right h5 (by omega)) (Int.mul_le_mul_of_nonneg_left h3 (by decide))
        have n1 : ¬ ((decide (n' < 0) || decide ((bytes : Int) * n' > 2 ^ 48)) = true ∨ n < 0 ∨ n > n') := by
          simp only [Bool.or_eq_true, decide_eq_true_eq]
          omega
        simp only [execOp, Instr.makeSlice, hvl, hvc, asInt, asIntOf, Sem.run_bind, Sem.run_pure, Result.andThen_ok, run_underlying hu, typeInfo, run_program, hi, hib, w1, w2, pure_bind]
        have n2 : ((decide (n' < 0) || decide ((bytes : Int) * n' > 2 ^ 48)) || decide (n < 0) || decide (n > n')) = false := by
          simp only [Bool.or_eq_false_iff, decide_eq_false_iff_not]
          omega
        simp only [n2, Bool.false_eq_true, if_false, Sem.run_bind, run_askRoom, Result.andThen_ok, run_sizeOf' he]
        by_cases h0 : n'.toNat * e = 0
        · simp [h0, newRow, range0]
        · simp only [h0, if_false, Sem.run_bind, run_zeroValue' hz, Result.andThen_ok, Sem.run_pure, newRow, run_newObj]
          rfl
      · exact hq.elim
    · exact hq.elim
  case fieldAddr S x f =>
    split at hq
    · rename_i y hy
      obtain ⟨u, h1, h2⟩ := fieldA_sound (P := X.P) hE (h.ev x) hy
      exact ⟨_, _, hq, .value (w' := w) (v := _) (by simp [execOp, h1]) (.same h h2)⟩
    · exact hq.elim
  case field T x f =>
    split at hq
    · rename_i y hy
      obtain ⟨u, h1, h2⟩ := fieldV_sound (P := X.P) (h.ev x) hy
      exact ⟨_, _, hq, .value (w' := w) (v := _) (by simp [execOp, h1]) (.same h h2)⟩
    · exact hq.elim
  case indexAddr T x i =>
    obtain ⟨y, z, hK, h1, h2⟩ := ixaA_sound (P := X.P) hE (h.ev x) (h.ev i) hq
    exact ⟨_, _, hK, .value (w' := w) (v := _) (by simp [execOp, h1]) (.same h h2)⟩
  case index T x i =>
    obtain ⟨y, z, hK, h1, h2⟩ := ixvA_sound (P := X.P) (h.ev x) (h.ev i) hq
    exact ⟨_, _, hK, .value (w' := w) (v := _) (by simp [execOp, h1]) (.same h h2)⟩
  case extract x i =>
    have hx := h.ev x
    split at hq
    · rename_i vs hvs
      rw [hvs] at hx
      split at hq
      · rename_i y hy
        simp only [VR] at hx
        obtain ⟨cs, e, hc⟩ := hx
        obtain ⟨z, hz, hr⟩ := hc.get hy
        rw [Array.getElem?_toList] at hz
        exact ⟨_, _, hq, .value (w' := w) (v := z) (by simp [execOp, e, Instr.extract, hz]) (.same h hr)⟩
      · exact hq.elim
    · exact hq.elim
  case call c =>
    obtain ⟨callee, args, ats⟩ := c
    simp only at hq
    cases callee <;> simp only at hq
    case value x =>
      have hx := h.ev x
      split at hq
      · rename_i f caps hf
        rw [hf] at hx
        simp only [VR] at hx
        obtain ⟨cs, e, hc⟩ := hx
        obtain ⟨y, os, hK, hI⟩ := callA_sound hG h hE ht (cargs := args.map a.eval ++ cs) (by simpa using (h.evs args.toList).append hc) hq
        exact ⟨y, os, hK, .call e hI⟩
      · exact hq.elim
    case builtin b =>
      obtain ⟨y, os, hK, v, w', h1, h2⟩ := builtinA_sound (t := dst.getD 0) (ty := type) (cs := args.map fun | .const _ => true | _ => false) h hE (cargs := args.map a.eval) (by simpa using h.evs args.toList) hq
      exact ⟨y, os, hK, .value (w' := w') (v := v) (by rw [BigFrame.execOp_builtin]; exact h1) h2⟩
end
end Go.Ax
