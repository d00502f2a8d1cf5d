/- The executor: that each operation that writes nothing does what it says. -/
import Derived.Test.YtagiajolklbbiaaBxW
namespace Go.Bx
open Go.Ax
open Go.RowKit (Below)

section
variable {F F' : Nat → Prop} {N : Nat} {pn : Option (Nat × Nat)} {Tg Tg' : AV → Value → Prop} {w0 w w' : World} {sh : Sh} {m m' mr : Mp} {L L' : Loc} {fr : Fr} {a : Act} {P : Program}

theorem VRs.dropTake {xs : List AV} {vs : List Value} (h : VRs F Tg w m L xs vs) (o n : Nat) : VRs F Tg w m L ((xs.drop o).take n) ((vs.drop o).take n) :=
  VRs.of_get (by simp [h.length]) fun i x hx => by
    rw [List.getElem?_take] at hx ⊢
    split at hx
    · rename_i hi
      rw [List.getElem?_drop] at hx
      obtain ⟨v, hv, hr⟩ := h.get hx
      exact ⟨v, by rw [if_pos hi, List.getElem?_drop]; exact hv, hr⟩
    · cases hx
theorem fieldV_sound {T : TypeId} {x y : AV} {f : Nat} {u : Value} (hx : VR F Tg w m L x u) (h : fieldV P T x f = some y) : ∃ z, (Instr.field T u f).run P w = .ok z w ∧ VR F Tg w m L y z := by
  unfold fieldV at h
  split at h
  · rename_i fields cells hu
    simp only [VR] at hx
    obtain ⟨cs, rfl, hc⟩ := hx
    cases hf : fields[f]? with
    | none => simp [hf] at h
    | some fd =>
      simp only [hf] at h
      split at h
      · rename_i ha
        split at h
        · rename_i n hn
          split at h
          · cases h
            refine ⟨.agg (cs.extract fd.offset (fd.offset + n)), ?_, ?_⟩
            · simp [Instr.field, run_underlying hu, hf, asAgg, part, run_isAgg' ha, run_sizeOf' hn]
            · simp only [VR]
              refine ⟨_, rfl, ?_⟩
              rw [Array.toList_extract]
              have := hc.dropTake fd.offset n
              simpa [List.extract_eq_take_drop] using this
          · cases h
        · cases h
      · rename_i ha
        obtain ⟨z, hz, hr⟩ := hc.get h
        rw [Array.getElem?_toList] at hz
        exact ⟨z, by simp [Instr.field, run_underlying hu, hf, asAgg, part, run_isAgg' ha, hz], hr⟩
      · cases h
  · cases h
theorem ixaK_sound {L1 : Loc} (hE : Ext L1 L) {T : TypeId} {x i : AV} {u v : Value} {K : AV → Prop} (hx : VR F Tg w m L x u) (hi : VR F Tg w m L i v) (h : ixaK P L1 T x i K) : ∃ y z, K y ∧ (Instr.indexAt T u v).run P w = .ok z w ∧ VR F Tg w m L y z := by
  unfold ixaK at h
  split at h
  case h_2 => exact h.elim
  rename_i kk n
  simp only [VR] at hi
  subst hi
  split at h
  · rename_i elem hu
    split at h
    case h_2 => exact h.elim
    rename_i e hs
    split at h
    · rename_i r xs t
      split at h
      case h_2 => exact h.elim
      rename_i he
      have he := Nat.eq_of_beq_eq_true he
      subst he
      obtain ⟨⟨h0, h1⟩, hK⟩ := h
      simp only [VR] at hx
      obtain ⟨_, ⟨b, rfl, rfl⟩ | ⟨b, off, cap, rfl, hle, hb, hc⟩⟩ := hx
      · simp at h1; omega
      · refine ⟨_, .pointer (some ⟨b, off + n.toNat * r.w, none⟩), hK, ?_, ?_⟩
        · simp [Instr.indexAt, asIntOf, run_underlying hu, h0, h1, run_sizeOf' hs, addr_add]
        · simp only [VR]; exact ⟨by omega, r.w_pos, b, off, rfl, hb, hc⟩
    · rename_i k
      split at h
      case h_2 => exact h.elim
      rename_i r xs hL
      split at h
      case h_2 => exact h.elim
      rename_i he
      have he := Nat.eq_of_beq_eq_true he
      subst he
      obtain ⟨⟨h0, h1⟩, hK⟩ := h
      simp only [VR] at hx
      have hLk := hE k _ hL hx.1
      rcases hx.2 _ _ hLk with ⟨e, _⟩ | ⟨hne, cap, rfl, hc1, hc2⟩
      · rw [e] at h1; simp at h1; omega
      refine ⟨_, .pointer (some ⟨(m k).1, n.toNat * r.w + 0, none⟩), hK, ?_, ?_⟩
      · simp [Instr.indexAt, asIntOf, run_underlying hu, h0, h1, run_sizeOf' hs, addr_add]
      · simp only [VR]
        refine ⟨hx.1, fun r' ys e => ?_⟩
        rw [hLk] at e; cases e
        exact ⟨rfl, by omega, r.w_pos⟩
    · exact h.elim
  · rename_i len elem hu
    split at h
    case h_2 => exact h.elim
    rename_i e hs
    split at h
    · rename_i k off
      split at h
      case h_2 => exact h.elim
      rename_i b hL
      obtain ⟨⟨h0, h1⟩, hK⟩ := h
      simp only [VR] at hx
      have hLk := hE k _ hL hx.1
      have hv := hx.2 _ hLk
      subst hv
      refine ⟨_, .pointer (some ⟨(m k).1, off + n.toNat * e, none⟩), hK, ?_, ?_⟩
      · simp [Instr.indexAt, asIntOf, run_underlying hu, Instr.sureAddr, h0, h1, run_sizeOf' hs, addr_add]
      · simp only [VR]; exact ⟨hx.1, fun _ _ => trivial⟩
    · obtain ⟨⟨h0, h1⟩, hK⟩ := h
      simp only [VR] at hx
      obtain ⟨_, b, off, rfl, hb, hc⟩ := hx
      refine ⟨_, .pointer (some ⟨b, off + n.toNat * e, none⟩), hK, ?_, ?_⟩
      · simp [Instr.indexAt, asIntOf, run_underlying hu, Instr.sureAddr, h0, h1, run_sizeOf' hs, addr_add]
      · simp only [VR]; exact ⟨trivial, b, _, rfl, hb, hc.drop _⟩
    · exact h.elim
  · exact h.elim
theorem ixvK_sound {T : TypeId} {x i : AV} {u v : Value} {K : AV → Prop} (hx : VR F Tg w m L x u) (hi : VR F Tg w m L i v) (h : ixvK P T x i K) : ∃ y z, K y ∧ (Instr.index T u v).run P w = .ok z w ∧ VR F Tg w m L y z := by
  unfold ixvK at h
  split at h
  · rename_i len elem cells kk n hu
    obtain ⟨⟨h0, h1⟩, h⟩ := h
    simp only [VR] at hx hi
    subst hi
    obtain ⟨cs, rfl, hc⟩ := hx
    split at h
    · rename_i e ha hs
      obtain ⟨hle, hK⟩ := h
      refine ⟨_, .agg (cs.extract (n.toNat * e) (n.toNat * e + e)), hK, ?_, ?_⟩
      · simp [Instr.index, asIntOf, run_underlying hu, h0, h1, part, run_isAgg' ha, run_sizeOf' hs]
      · simp only [VR]
        refine ⟨_, rfl, ?_⟩
        rw [Array.toList_extract]
        have := hc.dropTake (n.toNat * e) e
        simpa [List.extract_eq_take_drop] using this
    · rename_i e ha hs
      cases hy : cells[n.toNat * e]? with
      | none => rw [hy] at h; exact h.elim
      | some y =>
        rw [hy] at h
        obtain ⟨z, hz, hr⟩ := hc.get hy
        rw [Array.getElem?_toList] at hz
        exact ⟨y, z, h, by simp [Instr.index, asIntOf, run_underlying hu, h0, h1, part, run_isAgg' ha, run_sizeOf' hs, hz], hr⟩
    · exact h.elim
  · exact h.elim
theorem fmaxA_sound {k : FloatKind} {a b x y : Nat} (ha : Fl k a x) (hb : Fl k b y) : ∃ r d, (Builtin.max2 (.float k a) (.float k b)).run P w = .ok (.float k r) { w with drawn := d } ∧ Fl k r (fmaxA k x y) := by
  have ho := order_canon ha hb
  unfold fmaxA
  rw [← ho]
  have hnn : ∀ o, k.format.order a b = some o → isNaN k a = false := fun o h => by
    cases hn : isNaN k a with
    | false => rfl
    | true => obtain ⟨s, f, hr⟩ := read_of_nan hn; simp [Ieee.Format.order, hr, order_nan_left] at h
  cases h : k.format.order a b with
  | none =>
    refine ⟨(Question.nanMinMax k true a b).cut (w.tape w.drawn (.nanMinMax k true a b)), w.drawn + 1, ?_, ?_⟩
    · simp [Builtin.max2, h, Question.forced]
    · cases k
      · exact nan32 _
      · exact nan64 _
  | some o =>
    have ea := ha.eq (hnn o h)
    cases o with
    | lt => exact ⟨b, w.drawn, by simp [Builtin.max2, h], hb⟩
    | gt => exact ⟨a, w.drawn, by simp [Builtin.max2, h], ha⟩
    | eq =>
      refine ⟨if (k.decode a).neg then b else a, w.drawn, by simp [Builtin.max2, h], ?_⟩
      rw [ea]
      split
      · exact hb
      · rw [← ea]; rw [← ea] at ha; exact ha
theorem fminA_sound {k : FloatKind} {a b x y : Nat} (ha : Fl k a x) (hb : Fl k b y) : ∃ r d, (Builtin.min2 (.float k a) (.float k b)).run P w = .ok (.float k r) { w with drawn := d } ∧ Fl k r (fminA k x y) := by
  have ho := order_canon ha hb
  unfold fminA
  rw [← ho]
  have hnn : ∀ o, k.format.order a b = some o → isNaN k a = false := fun o h => by
    cases hn : isNaN k a with
    | false => rfl
    | true => obtain ⟨s, f, hr⟩ := read_of_nan hn; simp [Ieee.Format.order, hr, order_nan_left] at h
  cases h : k.format.order a b with
  | none =>
    refine ⟨(Question.nanMinMax k false a b).cut (w.tape w.drawn (.nanMinMax k false a b)), w.drawn + 1, ?_, ?_⟩
    · simp [Builtin.min2, h, Question.forced]
    · cases k
      · exact nan32 _
      · exact nan64 _
  | some o =>
    have ea := ha.eq (hnn o h)
    cases o with
    | lt => exact ⟨a, w.drawn, by simp [Builtin.min2, h], ha⟩
    | gt => exact ⟨b, w.drawn, by simp [Builtin.min2, h], hb⟩
    | eq =>
      refine ⟨if (k.decode a).neg then a else b, w.drawn, by simp [Builtin.min2, h], ?_⟩
      rw [ea]
      split
      · rw [← ea]; rw [← ea] at ha; exact ha
      · exact hb
theorem RowsAt.take {r : RK} {xs : List r.T} {b off : Nat} (h : RowsAt w r xs b off) (n : Nat) : RowsAt w r (xs.take n) b off := fun i x hx => by
  refine h i x ?_
  have e : rowsA r xs = rowsA r (xs.take n) ++ rowsA r (xs.drop n) := by rw [← rowsA_append, List.take_append_drop]
  rw [e, List.getElem?_append_left (List.getElem?_eq_some_iff.1 hx).1]
  exact hx
theorem slK_sound {T : TypeId} {x : AV} {l h m0 : Option AV} {u : Value} {lv hv mv : Option Value} {K : AV → Prop} (hx : VR F Tg w m L x u)
    (hl : l = none → lv = none) (hh : ∀ y, h = some y → ∃ v, hv = some v ∧ VR F Tg w m L y v) (hm : m0 = none → mv = none) (hk : slK P T x l h m0 K) : ∃ y z, K y ∧ (Instr.sliceAt T u lv hv mv).run P w = .ok z w ∧ VR F Tg w m L y z := by
  unfold slK at hk
  split at hk
  case h_2 => exact hk.elim
  rename_i e kk n he
  split at hk
  case h_2 => exact hk.elim
  rename_i sz r xs t hsz
  obtain ⟨⟨h0, h1⟩, hK⟩ := hk
  rw [hl rfl, hm rfl]
  obtain ⟨v, rfl, hv⟩ := hh _ rfl
  simp only [VR] at hv
  subst hv
  have hrun : ∀ (b : Option Addr) (len cap : Nat), n ≤ (cap : Int) → (Instr.sliceAt T (.slice b len cap) none (some (.int kk n)) none).run P w = .ok (.slice (if cap = 0 then b else b.map (·.add (0 * sz))) n.toNat cap) w := by
    intro b len cap hc
    simp [Instr.sliceAt, Instr.slice, run_underlying he, Instr.sliceBounds, Instr.sliceBound, asIntOf, h0, hc, run_sizeOf' hsz]
  simp only [VR] at hx
  obtain ⟨_, ⟨b, rfl, rfl⟩ | ⟨b, off, cap, rfl, hle, hb, hc⟩⟩ := hx
  · have hn : n = 0 := by simp at h1; omega
    subst hn
    refine ⟨_, .slice b 0 0, hK, ?_, ?_⟩
    · rw [hrun _ _ _ (by simp)]; simp
    · simp only [VR]; exact ⟨trivial, .inl ⟨b, rfl, by simp⟩⟩
  · refine ⟨_, .slice (some ⟨b, off, none⟩) n.toNat cap, hK, ?_, ?_⟩
    · rw [hrun _ _ _ (by omega)]
      have : (⟨b, off, none⟩ : Addr).add 0 = ⟨b, off, none⟩ := by rw [addr_add]; rfl
      simp [this]
    · simp only [VR]
      refine ⟨trivial, .inr ⟨b, off, cap, ?_, ?_, hb, hc.take _⟩⟩
      · rw [List.length_take, Nat.min_eq_left (by omega)]
      · rw [List.length_take]; omega

theorem builtinK_sound {X : Cx} (h : Rel F Tg pn N w0 sh m fr L a w) {L1 : Loc} (hE : Ext L1 L) {b : Builtin} {ats : Array TypeId} {t : Nat} {ty : TypeId} {cs : Array Bool} {args : List AV} {cargs : Array Value} (hargs : VRs F Tg w m L args cargs.toList)
    {K : AV → List (Nat × Blk) → List Nat → Prop} (hc : builtinK X L1 t b ats args K) :
    ∃ y os ks, K y os ks ∧ ((∀ p ∈ os, L (t * 4 + p.1) = .free) → (∀ p ∈ os, t * 4 + p.1 ≠ LK) → (∀ k ∈ ks, AppOk sh (t * 4) k) → ∃ v w', (builtin b ats ty cs cargs).run X.P w = .ok (.value v) w' ∧ After F Tg pn N w0 sh fr a t L y os v w') := by
  obtain ⟨l⟩ := cargs
  simp only at hargs
  unfold builtinK at hc
  split at hc
  · rename_i x
    simp only [VRs] at hargs
    obtain ⟨v, vs', rfl, hx, rfl⟩ := hargs
    split at hc
    case h_2 => exact hc.elim
    rename_i T hT
    split at hc
    case h_2 => exact hc.elim
    rename_i n hs hn
    refine ⟨_, _, _, hc, fun _ _ _ => ⟨.int .i64 n, w, ?_, .same h (by simp [VR])⟩⟩
    have hv : ∃ p cap, v = .slice p n cap := by
      unfold lenA at hn
      split at hn
      · cases hn; simp only [VR] at hx; exact ⟨none, 0, hx⟩
      · split at hn
        · rename_i r xs hrows
          cases hn
          rcases rowsOf_sound h.heap hE hx hrows with ⟨b', rfl, rfl⟩ | ⟨b', off, cap, rfl, _⟩
          · exact ⟨b', 0, rfl⟩
          · exact ⟨_, cap, rfl⟩
        · cases hn
    obtain ⟨p, cap, rfl⟩ := hv
    unfold isSli at hs
    split at hs
    · rename_i e hu
      simp [builtin, Builtin.len_, hT, run_underlying hu, goInt]
    · cases hs
  · rename_i k x _y
    simp only [VRs] at hargs
    obtain ⟨v, vs', rfl, hx, rfl⟩ := hargs
    simp only [VR] at hx
    obtain ⟨p, q, rfl, hp, hq⟩ := hx
    exact ⟨_, _, _, hc, fun _ _ _ => ⟨.float k p, w, by simp only [BigFrame.builtin_real, Sem.run_bind, run_real, Result.andThen_ok, Sem.run_pure], .same h (by simp only [VR]; exact ⟨p, rfl, hp⟩)⟩⟩
  · rename_i k _x y
    simp only [VRs] at hargs
    obtain ⟨v, vs', rfl, hx, rfl⟩ := hargs
    simp only [VR] at hx
    obtain ⟨p, q, rfl, hp, hq⟩ := hx
    exact ⟨_, _, _, hc, fun _ _ _ => ⟨.float k q, w, by simp only [BigFrame.builtin_imag, Sem.run_bind, run_imag, Result.andThen_ok, Sem.run_pure], .same h (by simp only [VR]; exact ⟨q, rfl, hq⟩)⟩⟩
  · rename_i k x k' y
    simp only [VRs] at hargs
    obtain ⟨v, vs', rfl, hx, u, us', rfl, hy, rfl⟩ := hargs
    obtain ⟨rfl, hK⟩ := hc
    simp only [VR] at hx hy
    obtain ⟨p, rfl, hp⟩ := hx
    obtain ⟨q, rfl, hq⟩ := hy
    exact ⟨_, _, _, hK, fun _ _ _ => ⟨.complex k p q, w, by simp only [BigFrame.builtin_complex, Sem.run_bind, run_complex, Result.andThen_ok, Sem.run_pure], .same h (by simp only [VR]; exact ⟨p, q, rfl, hp, hq⟩)⟩⟩
  · rename_i k x k' y
    simp only [VRs] at hargs
    obtain ⟨v, vs', rfl, hx, u, us', rfl, hy, rfl⟩ := hargs
    obtain ⟨rfl, hK⟩ := hc
    simp only [VR] at hx hy
    obtain ⟨p, rfl, hp⟩ := hx
    obtain ⟨q, rfl, hq⟩ := hy
    obtain ⟨r, d, h1, h2⟩ := fmaxA_sound (P := X.P) (w := w) hp hq
    exact ⟨_, _, _, hK, fun _ _ _ => ⟨.float k r, { w with drawn := d }, by simp [builtin, Builtin.max_, h1], .draw h (by simp only [VR]; exact ⟨r, rfl, h2⟩)⟩⟩
  · rename_i k x k' y
    simp only [VRs] at hargs
    obtain ⟨v, vs', rfl, hx, u, us', rfl, hy, rfl⟩ := hargs
    obtain ⟨rfl, hK⟩ := hc
    simp only [VR] at hx hy
    obtain ⟨p, rfl, hp⟩ := hx
    obtain ⟨q, rfl, hq⟩ := hy
    obtain ⟨r, d, h1, h2⟩ := fminA_sound (P := X.P) (w := w) hp hq
    exact ⟨_, _, _, hK, fun _ _ _ => ⟨.float k r, { w with drawn := d }, by simp [builtin, Builtin.min_, h1], .draw h (by simp only [VR]; exact ⟨r, rfl, h2⟩)⟩⟩
  · rename_i k x k' y
    simp only [VRs] at hargs
    obtain ⟨v, vs', rfl, hx, u, us', rfl, hy, rfl⟩ := hargs
    simp only [VR] at hx hy
    subst hx hy
    exact ⟨_, _, _, hc, fun _ _ _ => ⟨_, w, by simp [builtin, Builtin.max_, Builtin.max2]; rfl, .same h (by simp [VR])⟩⟩
  · rename_i k x k' y
    simp only [VRs] at hargs
    obtain ⟨v, vs', rfl, hx, u, us', rfl, hy, rfl⟩ := hargs
    simp only [VR] at hx hy
    subst hx hy
    exact ⟨_, _, _, hc, fun _ _ _ => ⟨_, w, by simp [builtin, Builtin.min_, Builtin.min2]; rfl, .same h (by simp [VR])⟩⟩
  · rename_i x y
    simp only [VRs] at hargs
    obtain ⟨u, vs', rfl, hx, v, us', rfl, hy, rfl⟩ := hargs
    split at hc
    case h_2 => exact hc.elim
    rename_i T T' hT hT'
    split at hc
    case h_2 => exact hc.elim
    rename_i hs
    obtain ⟨z, os, ks, hK, hR⟩ := appK_sound (ty := ty) h hE hs (coA_sound hx) (coA_sound hy) hc
    refine ⟨z, os, ks, hK, fun h1 h2 h3 => ?_⟩
    obtain ⟨q, w', hr, ha⟩ := hR h1 h2 h3
    refine ⟨q, w', ?_, ha⟩
    have e : (Builtin.append_ ats ty #[u, v]).run X.P w = (Builtin.append_ #[T, T'] ty #[u, v]).run X.P w := by
      simp [Builtin.append_, hT, hT']
    simp [builtin, e, hr]
  · exact hc.elim

theorem range0 : Array.range 0 = #[] := Array.eq_empty_of_size_eq_zero (by simp)
/-- AN OPERATION DOES WHAT IT SAYS. -/
theorem qOp_sound {X : Cx} (h : Rel F Tg pn N w0 sh m fr L a w) {L1 : Loc} (hE : Ext L1 L) {o : Oper} {d : Nat} (hdst : d = o.dst.getD 0) {K : AV → List (Nat × Blk) → List Nat → Prop} (hq : qOp X L1 d o fr K) :
    ∃ y os ks, K y os ks ∧ ((∀ p ∈ os, L (o.dst.getD 0 * 4 + p.1) = .free) → (∀ p ∈ os, o.dst.getD 0 * 4 + p.1 ≠ LK) → (os.map (·.1)).Nodup → (∀ k ∈ ks, AppOk sh (o.dst.getD 0 * 4) k) → Yields X.P o a w (After F Tg pn N w0 sh fr a (o.dst.getD 0) L y os)) := by
  subst hdst
  obtain ⟨dst, op, type, pos, after, guard⟩ := o
  unfold qOp at hq
  cases op <;> simp only at hq
  case move x => exact ⟨_, _, _, hq, fun _ _ _ _ => .value (w' := w) (v := a.eval x) (by simp [execOp]) (.same h (coA_sound (h.ev x)))⟩
  case assign x => exact ⟨_, _, _, hq, fun _ _ _ _ => .value (w' := w) (v := a.eval x) (by simp [execOp]) (.same h (coA_sound (h.ev x)))⟩
  case pick c x y =>
    have hc := h.ev c
    split at hq
    · rename_i p hp
      rw [hp] at hc
      simp only [VR] at hc
      replace hq := br_elim hq
      cases p with
      | true => exact ⟨_, _, _, hq.1 rfl, fun _ _ _ _ => .value (w' := w) (v := a.eval x) (by simp [execOp, hc, asBool]) (.same h (h.ev x))⟩
      | false => exact ⟨_, _, _, hq.2 rfl, fun _ _ _ _ => .value (w' := w) (v := a.eval y) (by simp [execOp, hc, asBool]) (.same h (h.ev y))⟩
    · exact hq.elim
  case alloc T =>
    split at hq
    case h_2 => exact hq.elim
    rename_i z hz
    split at hq
    case h_2 => exact hq.elim
    rename_i cs hcs
    have hrun : (execOp a.eval { dst, op := .alloc T, type, pos, after, guard }).run X.P w = .ok (.value (.pointer (some ⟨w.heap.size, 0, none⟩))) (w.alloc (.cells z.cells T)) := by
      simp [execOp, Instr.alloc, newVar, newRow, run_zeroValue' hz]
    have hagg : VR F Tg w m L (coA X.P T (.agg (z.cells.toList.map ofCell))) (.agg z.cells) := coA_sound (by simp only [VR]; exact ⟨_, rfl, ofCells_sound _⟩)
    have hcs' : VRs F Tg w m L cs z.cells.toList := by
      have hform : ∃ l, coA X.P T (.agg (z.cells.toList.map ofCell)) = .agg l := by
        simp only [coA]
        split
        · exact ⟨_, rfl⟩
        · split <;> exact ⟨_, rfl⟩
      obtain ⟨l, hl⟩ := hform
      rw [hl] at hcs hagg
      simp only [cellsA] at hcs
      cases hcs
      simp only [VR] at hagg
      obtain ⟨cs', e, hc⟩ := hagg
      cases e; exact hc
    split at hq
    · exact ⟨_, _, _, hq, fun hf hLK _ _ => .value hrun (.alloc h (hf (0, .av cs) (by simp)) (hLK (0, .av cs) (by simp)) T hcs')⟩
    · refine ⟨_, _, _, hq, fun hf hLK _ _ => .value hrun (.alloc h (hf (0, .av (z.cells.toList.map fun v => coA X.P T (ofCell v))) (by simp)) (hLK (0, .av (z.cells.toList.map fun v => coA X.P T (ofCell v))) (by simp)) T ?_)⟩
      have : ∀ vs : List Value, VRs F Tg w m L (vs.map fun v => coA X.P T (ofCell v)) vs := fun vs => by
        induction vs with
        | nil => simp [VRs]
        | cons v vs ih => simp only [List.map_cons, VRs]; exact ⟨v, vs, rfl, coA_sound (ofCell_sound v), ih⟩
      exact this _
  case box T x =>
    split at hq
    · rename_i cs hl hcs
      have hlive : livesA L (coA X.P T (evA fr x)) = true := by
        have h0 := hE.livesA (h.ev x) hl
        have : coA X.P T (evA fr x) = evA fr x ∨ ∀ L, livesA L (coA X.P T (evA fr x)) = true := by
          unfold coA
          split
          · right; intro L; unfold coNil; split
            · split <;> rfl
            · rfl
          · right; intro L; split
            · rfl
            · split <;> rfl
          · exact .inl rfl
        rcases this with e | e
        · rw [e]; exact h0
        · exact e L
      have hcv := cellsA_sound (coA_sound (P := X.P) (T := T) (h.ev x)) hlive hcs
      refine ⟨_, _, _, hq, fun hf hLK _ _ => .value (w' := w.alloc (.cells (a.eval x).cells T)) ?_ (.alloc h (hf (0, .av cs) (by simp)) (hLK (0, .av cs) (by simp)) T hcv)⟩
      simp [execOp, Instr.box, newVar, newRow]
    · exact hq.elim
  case build T parts =>
    have hpp := parts_of h hE parts.toList
    split at hq
    · rename_i z fields hz hu
      split at hq
      · rename_i ps hps
        split at hq
        · rename_i cs hl hf
          obtain ⟨c', h1, h2⟩ := fill_sound _ (hpp hl) (ofCells_sound z.cells.toList) hf
          have hpl := places_run (P := X.P) (w := w) fields.toList ps hps
          refine ⟨_, _, _, hq, fun _ _ _ _ => .value (w' := w) (v := .agg c') ?_ (.same h (coA_sound (by simp only [VR]; exact ⟨c', rfl, h2⟩)))⟩
          have e : (fields.mapM (m := Sem) fun f => do pure (f.offset, ← sizeOf f.type)).run X.P w = .ok ps.toArray w := by
            rw [Array.mapM_eq_mapM_toList]
            simp only [Sem.run_map, hpl, Result.andThen_ok]
          have e2 : (parts.map fun p => (p.1, a.eval p.2)).toList = parts.toList.map fun p => (p.1, a.eval p.2) := by simp
          have e3 : (fun (i : Nat) => (ps.toArray[i]? : Option (Nat × Nat))) = fun (i : Nat) => ps[i]? := by funext i; simp
          simp only [execOp, Instr.build, Sem.run_bind, run_zeroValue' hz, Result.andThen_ok, run_underlying hu, e, e2, e3, h1, Sem.run_pure]
        · exact hq.elim
      · exact hq.elim
    · rename_i z n elem hz hu
      split at hq
      · rename_i e he
        split at hq
        · rename_i cs hl hf
          obtain ⟨c', h1, h2⟩ := fill_sound _ (hpp hl) (ofCells_sound z.cells.toList) hf
          refine ⟨_, _, _, hq, fun _ _ _ _ => .value (w' := w) (v := .agg c') ?_ (.same h (by simp only [VR]; exact ⟨c', rfl, h2⟩))⟩
          have e2 : (parts.map fun p => (p.1, a.eval p.2)).toList = parts.toList.map fun p => (p.1, a.eval p.2) := by simp
          simp only [execOp, Instr.build, Sem.run_bind, run_zeroValue' hz, Result.andThen_ok, run_underlying hu, run_sizeOf' he, e2, h1, Sem.run_pure]
        · exact hq.elim
      · exact hq.elim
    · exact hq.elim
  case buildSlice T len parts =>
    have hpp := parts_of h hE parts.toList
    split at hq
    case h_2 => exact hq.elim
    rename_i elem hu
    split at hq
    case h_2 => exact hq.elim
    rename_i r z hrk hz
    have he := rowKind_sz hrk
    split at hq
    · rename_i h0
      simp only [Bool.and_eq_true, Nat.beq_eq] at h0
      obtain ⟨rfl, hp0⟩ := h0
      have hp : parts = #[] := Array.eq_empty_of_size_eq_zero hp0
      subst hp
      refine ⟨_, _, _, hq, fun hf hLK _ _ => .value (w' := w.alloc (.cells #[] elem)) (v := .slice (some ⟨w.heap.size, 0, none⟩) 0 0) ?_ (After.emptySlice (h.world ((Below.refl _ _).alloc (Nat.le_refl _) _)) (hf (0, .tab r []) (by simp)) (hLK (0, .tab r []) (by simp)) r _)⟩
      simp [execOp, Instr.buildSlice, run_underlying hu, run_sizeOf' he, Instr.fill, newRow, range0]
    · split at hq
      case h_2 => exact hq.elim
      rename_i hle
      simp only [Bool.and_eq_true, Nat.blt_eq, Nat.ble_eq] at hle
      split at hq
      case h_2 => exact hq.elim
      rename_i cs hl hf
      split at hq
      case h_2 => exact hq.elim
      rename_i xs hdec
      obtain ⟨hrows, hxl⟩ := decRows_eq r len hdec
      have hzs := zerosA_sound (F := F) (Tg := Tg) (w := w) (m := m) (L := L) z (len * r.w)
      obtain ⟨c', h1, h2⟩ := fill_sound _ (hpp hl) hzs hf
      have hw4 : r.w ≤ 4 := by cases r <;> simp [RK.w]
      have hpos : 0 < len * r.w := Nat.mul_pos hle.1 r.w_pos
      have hle4 : len * r.w ≤ 4096 := Nat.mul_le_mul hle.2 hw4
      have hlen : c'.size = len * r.w := by
        have h3 := h2.length
        have h4 := fillA_length hf
        rw [zerosA_length] at h4
        simp only [Array.length_toList] at h3
        omega
      refine ⟨_, _, _, hq, fun hfr hLK _ _ => .value (w' := w.alloc (.cells c' elem)) (v := .slice (some ⟨w.heap.size, 0, none⟩) len len) ?_ ?_⟩
      · have e2 : (parts.map fun p => (p.1, a.eval p.2)).toList = parts.toList.map fun p => (p.1, a.eval p.2) := by simp
        have n1 : ¬ (len * r.w > 2 ^ 24) := by omega
        have n2 : ¬ (len * r.w = 0) := by omega
        simp only [execOp, Instr.buildSlice, Sem.run_bind, run_underlying hu, Result.andThen_ok, run_sizeOf' he, if_neg n1, if_neg n2, run_zeroValue' hz, e2, h1, newRow, run_newObj, Sem.run_pure, pure_bind]
        rfl
      · have := After.allocSlice h (hfr (0, .tab r xs) (by simp)) (hLK (0, .tab r xs) (by simp)) (xs := xs) (c := c') (cap := len) elem (fun e => by rw [e] at hxl; simp at hxl; omega) (by rw [hrows]; exact h2) (by omega) (by omega)
        rwa [hxl] at this
  case load T x =>
    cases hy : ldA X.P L1 T (evA fr x) with
    | none => rw [hy] at hq; exact hq.elim
    | some y =>
      rw [hy] at hq
      obtain ⟨u, h1, h2⟩ := ldA_sound (P := X.P) h.heap hE (h.ev x) hy
      exact ⟨_, _, _, hq, fun _ _ _ _ => .value (w' := w) (v := _) (by simp [execOp, h1]) (.same h h2)⟩
  case nilCheck x =>
    split at hq
    · rename_i hp
      obtain ⟨b, off, e⟩ := ptrA_sound hE hp (h.ev x)
      refine ⟨_, _, _, hq, fun _ _ _ _ => .value (w' := w) (v := a.eval x) ?_ (.same h (h.ev x))⟩
      simp [execOp, e]
    · exact hq.elim
  case binOp op T x y yT =>
    obtain ⟨z, d, r, hK, h1, h2⟩ := binK_sound (w := w) hE (h.ev x) (h.ev y) hq
    obtain ⟨g1, g2⟩ := binK_scalar hE (h.ev x) hq
    exact ⟨_, _, _, hK, fun _ _ _ _ => .value (w' := { w with drawn := d }) (v := r) (by simp [execOp, run_eqGuard g1 g2, h1]) (.draw h h2)⟩
  case unOp op T x =>
    obtain ⟨z, r, hK, h1, h2⟩ := unK_sound (P := X.P) (w := w) (h.ev x) hq
    exact ⟨_, _, _, hK, fun _ _ _ _ => .value (w' := w) (v := r) (by simp [execOp, h1]) (.same h h2)⟩
  case convert s d x =>
    obtain ⟨z, d, r, hK, h1, h2⟩ := cvK_sound (w := w) (h.ev x) hq
    exact ⟨_, _, _, hK, fun _ _ _ _ => .value (w' := { w with drawn := d }) (v := r) (by simp [execOp, h1]) (.draw h h2)⟩
  case makeFunc fn first caps =>
    cases fn <;> simp only at hq
    case func f =>
      split at hq
      · rename_i hf
        have hf' : first = #[] := Array.toList_eq_nil_iff.1 hf
        subst hf'
        refine ⟨_, _, _, hq, fun _ _ _ _ => .value (w' := w) (v := .func (.func f) #[] (caps.map a.eval)) (by simp [execOp, Instr.makeFunc]) (.same h (by simp only [VR]; exact ⟨_, rfl, by simpa using h.evs caps.toList⟩))⟩
      · exact hq.elim
  case makeSlice T l c =>
    split at hq
    case h_2 => exact hq.elim
    rename_i elem n n' hu hl hc
    split at hq
    case h_2 => exact hq.elim
    rename_i r z bytes hrk hz hb
    have he := rowKind_sz hrk
    split at hq
    case h_2 => exact hq.elim
    rename_i row hb1024 hrow
    have hb1024 := Nat.le_of_ble_eq_true hb1024
    obtain ⟨⟨rfl, h2, h3⟩, hK⟩ := hq
    have hvl := h.ev l
    have hvc := h.ev c
    rw [hl] at hvl
    rw [hc] at hvc
    simp only [VR] at hvl hvc
    have hinfo : ∃ i, X.P.info? elem = some i ∧ i.bytes = bytes := by
      cases hi : X.P.info? elem with
      | none => simp [hi] at hb
      | some i => simp [hi] at hb; exact ⟨i, rfl, hb⟩
    obtain ⟨i, hi, hib⟩ := hinfo
    have hrows : RowsIn r (List.replicate n.toNat row) ((Array.range (n.toNat * r.w)).map (z.cells[· % z.cells.size]!)).toList := rowsA_replicate hrow n.toNat
    refine ⟨_, _, _, hK, fun hfr hLK _ _ => .value (w' := w.alloc (.cells ((Array.range (n.toNat * r.w)).map (z.cells[· % z.cells.size]!)) elem)) (v := .slice (some ⟨w.heap.size, 0, none⟩) n.toNat n.toNat) ?_ ?_⟩
    · have w1 : IntKind.i64.wrap n = n := IntWalk.i64_in _ (by omega)
      have hmul : (bytes : Int) * n ≤ 1024 * 67108864 := by
        have h5 : (bytes : Int) ≤ 1024 := by omega
        exact Int.le_trans (Int.mul_le_mul_of_nonneg_right h5 (by omega)) (Int.mul_le_mul_of_nonneg_left h3 (by decide))
      simp only [execOp, Instr.makeSlice, hvl, hvc, asInt, asIntOf, Sem.run_bind, Sem.run_pure, Result.andThen_ok, run_underlying hu, typeInfo, run_program, hi, hib, w1, pure_bind]
      have n2 : ((decide (n < 0) || decide ((bytes : Int) * n > 2 ^ 48)) || decide (n < 0) || decide (n > n)) = false := by
        simp only [Bool.or_eq_false_iff, decide_eq_false_iff_not]
        omega
      simp only [n2, Bool.false_eq_true, if_false, Sem.run_bind, run_askRoom, Result.andThen_ok, run_sizeOf' he]
      by_cases h0 : n.toNat * r.w = 0
      · simp [h0, newRow, range0]
      · simp only [h0, if_false, Sem.run_bind, run_zeroValue' hz, Result.andThen_ok, Sem.run_pure, newRow, run_newObj]
        rfl
    · have hfree := hfr (0, .tab r (List.replicate n.toNat row)) (by simp)
      have hb : Below w.heap.size w (w.alloc (.cells ((Array.range (n.toNat * r.w)).map (z.cells[· % z.cells.size]!)) elem)) := (Below.refl _ _).alloc (Nat.le_refl _) _
      have hnew := (h.world hb).new hfree (hLK (0, .tab r (List.replicate n.toNat row)) (by simp)) w.heap.size (.tab r (List.replicate n.toNat row)) ((Array.range (n.toNat * r.w)).map (z.cells[· % z.cells.size]!)) elem (by show (w.heap.push _)[w.heap.size]? = _; simp)
        (fun hF => absurd (h.sub _ hF) (Nat.lt_irrefl _)) (fun k' c' hc' hh' _ e => absurd (h.heap.lt hc' hh') (by omega)) hrows.pre
      refine ⟨_, hnew, ?_⟩
      simp only [VR, adoptL, upd_same]
      refine ⟨by simp, fun r' ys e => ?_⟩
      cases e
      by_cases h0 : n.toNat = 0
      · exact .inl ⟨by rw [h0]; rfl, _, by rw [h0]⟩
      · exact .inr ⟨fun e => h0 (by simpa using e), n.toNat, by simp, by simp, by simp⟩
  case slice T x low high max =>
    obtain ⟨y, z, hK, h1, h2⟩ := slK_sound (P := X.P) (lv := low.map a.eval) (hv := high.map a.eval) (mv := max.map a.eval) (h.ev x) (fun e => by cases low <;> simp at e ⊢)
      (fun y e => by cases high with | none => simp at e | some hh => simp at e; subst e; exact ⟨_, rfl, h.ev hh⟩) (fun e => by cases max <;> simp at e ⊢) hq
    exact ⟨_, _, _, hK, fun _ _ _ _ => .value (w' := w) (v := z) (by simp [execOp, h1]) (.same h h2)⟩
  case fieldAddr S x f =>
    cases hy : fieldA X.P L1 S (evA fr x) f with
    | none => rw [hy] at hq; exact hq.elim
    | some y =>
      rw [hy] at hq
      obtain ⟨u, h1, h2⟩ := fieldA_sound (P := X.P) hE (h.ev x) hy
      exact ⟨_, _, _, hq, fun _ _ _ _ => .value (w' := w) (v := _) (by simp [execOp, h1]) (.same h h2)⟩
  case field T x f =>
    cases hy : fieldV X.P T (evA fr x) f with
    | none => rw [hy] at hq; exact hq.elim
    | some y =>
      rw [hy] at hq
      obtain ⟨u, h1, h2⟩ := fieldV_sound (P := X.P) (h.ev x) hy
      exact ⟨_, _, _, hq, fun _ _ _ _ => .value (w' := w) (v := _) (by simp [execOp, h1]) (.same h h2)⟩
  case indexAddr T x i =>
    obtain ⟨y, z, hK, h1, h2⟩ := ixaK_sound (P := X.P) hE (h.ev x) (h.ev i) hq
    exact ⟨_, _, _, hK, fun _ _ _ _ => .value (w' := w) (v := _) (by simp [execOp, h1]) (.same h h2)⟩
  case index T x i =>
    obtain ⟨y, z, hK, h1, h2⟩ := ixvK_sound (P := X.P) (h.ev x) (h.ev i) hq
    exact ⟨_, _, _, hK, fun _ _ _ _ => .value (w' := w) (v := _) (by simp [execOp, h1]) (.same h h2)⟩
  case extract x i =>
    have hx := h.ev x
    split at hq
    · rename_i vs hvs
      rw [hvs] at hx
      cases hy : vs[i]? with
      | none => rw [hy] at hq; exact hq.elim
      | some y =>
        rw [hy] at hq
        simp only [VR] at hx
        obtain ⟨cs, e, hc⟩ := hx
        obtain ⟨z, hz, hr⟩ := hc.get hy
        rw [Array.getElem?_toList] at hz
        exact ⟨_, _, _, hq, fun _ _ _ _ => .value (w' := w) (v := z) (by simp [execOp, e, Instr.extract, hz]) (.same h hr)⟩
    · exact hq.elim
  case call c =>
    obtain ⟨callee, args, ats⟩ := c
    simp only at hq
    cases callee <;> simp only at hq
    case value x =>
      have hx := h.ev x
      split at hq
      · rename_i f caps hf
        rw [hf] at hx
        simp only [VR] at hx
        obtain ⟨cs, e, hc⟩ := hx
        obtain ⟨y, os, ks, hK, hI⟩ := callK_sound h hE (cargs := args.map a.eval ++ cs) (by simpa using (coArgs_sound (P := X.P) ats.toList (h.evs args.toList)).append hc) hq
        exact ⟨y, os, ks, hK, fun h1 h2 h3 _ => .call e (hI h1 h2 h3)⟩
      · exact hq.elim
    case builtin b =>
      obtain ⟨y, os, ks, hK, hR⟩ := builtinK_sound (t := dst.getD 0) (ty := type) (cs := args.map fun | .const _ => true | _ => false) h hE (cargs := args.map a.eval) (by simpa using h.evs args.toList) hq
      refine ⟨y, os, ks, hK, fun h1 h2 _ h3 => ?_⟩
      obtain ⟨v, w', h4, h5⟩ := hR h1 h2 h3
      exact .value (w' := w') (v := v) (by rw [BigFrame.execOp_builtin]; exact h4) h5
end
end Go.Bx
