/- The abstract operations, second part: stores, addresses, arithmetic, conversions, composites. -/
import Derived.Test.YtkjdcbgliekjnaaAxP
namespace Go.Ax
open Go.RowKit (Below)

section
variable {B B0 N : Nat} {Tg Tg' : AV → Value → Prop} {w0 w w' : World} {m m' mr : Mp} {L L' : Loc} {fr : Fr} {a : Act} {P : Program}

theorem VRpre.set : ∀ {xs : List AV} {vs : List Value} (i : Nat) {x : AV} {v : Value}, VRpre B Tg w m L xs vs → VR B Tg w m L x v → VRpre B Tg w m L (xs.set i x) (vs.set i v)
  | [], vs, i, _, _, _, _ => by simp [VRpre]
  | y :: ys, _, i, x, v, h, hx => by
    simp only [VRpre] at h
    obtain ⟨u, us, rfl, h1, h2⟩ := h
    cases i with
    | zero => simp only [List.set_cons_zero, VRpre]; exact ⟨v, us, rfl, hx, h2⟩
    | succ i => simp only [List.set_cons_succ, VRpre]; exact ⟨u, _, rfl, h1, h2.set i hx⟩
def setsC (c : List Value) (off : Nat) : List Value → List Value
  | [] => c
  | v :: vs => setsC (c.set off v) (off + 1) vs
theorem setsC_length : ∀ (vs c : List Value) (off : Nat), (setsC c off vs).length = c.length
  | [], _, _ => rfl
  | v :: vs, c, off => by rw [setsC, setsC_length vs]; simp
theorem VRpre.sets : ∀ {xs : List AV} {ys : List AV} {vs us : List Value} (i : Nat), VRpre B Tg w m L xs vs → VRs B Tg w m L ys us → VRpre B Tg w m L (setsA xs i ys) (setsC vs i us)
  | xs, [], vs, _, i, h, hy => by simp [VRs] at hy; subst hy; exact h
  | xs, y :: ys, vs, _, i, h, hy => by
    simp only [VRs] at hy
    obtain ⟨u, us, rfl, h1, h2⟩ := hy
    rw [setsA, setsC]
    exact (h.set i h1).sets (i + 1) h2

theorem oneA_sound {x : AV} {v : Value} (h : oneA x = true) (hv : VR B Tg w m L x v) (hc : ∀ k g off, x = .loc k g off → (L k).1 = g) (hc' : ∀ k g off len e, x = .lsl k g off len e → (L k).1 = g) : v.oneCell' = true := by
  cases x <;> simp [oneA] at h <;> simp only [VR] at hv
  case bool => subst hv; rfl
  case int => subst hv; rfl
  case flt => obtain ⟨b, rfl, _⟩ := hv; rfl
  case fbits => obtain ⟨b, rfl, _⟩ := hv; rfl
  case cpx => obtain ⟨b, c, rfl, _⟩ := hv; rfl
  case nilsl => obtain ⟨b, rfl⟩ := hv; rfl
  case loc k g off => rw [hv.2 (hc k g off rfl)]; rfl
  case lsl k g off len e => obtain ⟨cap, e, _⟩ := hv.2 (hc' k g off len e rfl); rw [e]; rfl
  case ref => obtain ⟨_, b, off, rfl, _⟩ := hv; rfl
  case sli => obtain ⟨_, _, _, ⟨rfl, _⟩ | ⟨b, off, cap, rfl, _⟩⟩ := hv <;> rfl
  case fn => obtain ⟨cs, rfl, _⟩ := hv; rfl

theorem run_storeCells {b : Nat} {t : TypeId} : ∀ (vs : List Value) (c : Array Value) (off i : Nat) (w : World), w.heap[b]? = some (.cells c t (0, 0)) → off + i + vs.length ≤ c.size → (∀ v ∈ vs, v.oneCell' = true) →
    ∃ w', (storeCells ⟨b, off, none⟩ vs i).run P w = .ok () w' ∧ w'.heap[b]? = some (.cells (setsC c.toList (off + i) vs).toArray t (0, 0)) ∧ w'.heap.size = w.heap.size ∧
      (∀ k, k ≠ b → w'.heap[k]? = w.heap[k]?) ∧ w'.os = w.os ∧ w'.tape = w.tape ∧ w'.output = w.output
  | [], c, off, i, w, hb, _, _ => ⟨w, rfl, by simpa [setsC] using hb, rfl, fun _ _ => rfl, rfl, rfl, rfl⟩
  | v :: vs, c, off, i, w, hb, hle, hv => by
    simp only [List.length_cons] at hle
    have hcell : w.cell? ⟨b, off + i, none⟩ = some (c[off + i]'(by omega)) := by
      simp only [World.cell?, hb]
      simp
    have hfr : w.frozen? ⟨b, off + i, none⟩ = false := by
      simp only [World.frozen?, hb]
      simp
    have hset : (w.setCell ⟨b, off + i, none⟩ v).heap[b]? = some (.cells (c.setIfInBounds (off + i) v) t (0, 0)) := by
      simp [World.setCell, Array.getElem?_modify, hb]
    obtain ⟨w', h1, h2, h3, h4, h5, h6, h7⟩ := run_storeCells vs (c.setIfInBounds (off + i) v) off (i + 1) (w.setCell ⟨b, off + i, none⟩ v) hset (by simp; omega) fun u hu => hv u (by simp [hu])
    refine ⟨w', ?_, ?_, by rw [h3]; simp, fun k hk => by rw [h4 k hk]; exact Below.heap_setCell _ _ _ _ hk, h5, h6, h7⟩
    · rw [storeCells, addr_add]
      rw [Sem.run_bind, run_store _ _ _ _ _ (hv v (by simp)), hcell]
      simp only [hfr, Bool.false_eq_true, if_false, Result.andThen_ok, h1]
    · rw [h2]; simp [setsC, Array.toList_setIfInBounds, Nat.add_assoc]

theorem Rel.store (h : Rel B Tg N w0 m fr L a w) {k g off : Nat} {cells cs : List AV} (hg : (L k).1 = g) (hL : (L k).2 = some cells) (hle : off + cs.length ≤ cells.length) {vs : List Value} (hvs : VRs B Tg w m L cs vs) (hone : ∀ v ∈ vs, v.oneCell' = true) :
    ∃ w', (storeCells ⟨(m k).1, off, none⟩ vs).run P w = .ok () w' ∧ Rel B Tg N w0 m fr (upd L k (g, some (setsA cells off cs))) a w' := by
  obtain ⟨hB, c, t, hb, hsz, hpre⟩ := h.heap k cells hL
  have hlen := hpre.length_le
  have hl := hvs.length
  simp only [Array.length_toList] at hlen
  obtain ⟨w', h1, h2, h3, h4, h5, h6, h7⟩ := run_storeCells (P := P) vs c off 0 w hb (by omega) hone
  have hbel : Below B w w' := ⟨h5, h6, h7, by omega, fun i hi => h4 i (by omega)⟩
  have hk : Keeps B w w' m m L (upd L k (g, some (setsA cells off cs))) := by
    refine ⟨fun b o hb' => hbel.cell hb', fun i => ?_, fun i _ => rfl⟩
    by_cases hi : i = k
    · subst hi; simp [hg]
    · simp [upd_ne _ _ hi]
  refine ⟨w', h1, h.below.trans hbel, by have := h.base; omega, fun i cs' hcs => ?_, fun i j c1 c2 hi hj => ?_, h.size, h.defers, fun t => (h.tmps t).keep hk⟩
  · by_cases hi : i = k
    · subst hi
      simp at hcs; subst hcs
      refine ⟨hB, _, t, h2, by simp [setsC_length, hsz], ?_⟩
      simp only [Nat.add_zero]
      exact (hpre.sets off hvs).keep hk
    · rw [upd_ne _ _ hi] at hcs
      obtain ⟨e1, c1, t1, e2, e3, e4⟩ := h.heap i cs' hcs
      refine ⟨e1, c1, t1, ?_, e3, e4.keep hk⟩
      rw [h4 _ (fun e => hi (h.inj i k _ _ hcs hL e))]; exact e2
  · have hli : ∀ i c, (upd L k (g, some (setsA cells off cs)) i).2 = some c → ∃ c', (L i).2 = some c' := fun i c hc => by
      by_cases hi : i = k
      · subst hi; exact ⟨_, hL⟩
      · rw [upd_ne _ _ hi] at hc; exact ⟨_, hc⟩
    obtain ⟨_, hi'⟩ := hli i _ hi
    obtain ⟨_, hj'⟩ := hli j _ hj
    exact h.inj i j _ _ hi' hj'

/-- The references among some values are valid ones. -/
def livesA (L : Loc) : AV → Bool
  | .loc k g _ => (L k).1 == g && (L k).2.isSome
  | .lsl k g _ _ _ => (L k).1 == g && (L k).2.isSome
  | _ => true
theorem Ext.lives {L1 : Loc} (hx : Ext L1 L) {k g : Nat} (hl : ((L1 k).1 == g && (L1 k).2.isSome) = true) (hg : g ≤ (L k).1) : (L k).1 = g ∧ (L k).2.isSome = true := by
  simp only [Bool.and_eq_true, beq_iff_eq, Option.isSome_iff_exists] at hl
  obtain ⟨h1, c, hc⟩ := hl
  have := hx k c hc (by omega)
  rw [this]; exact ⟨h1, by simp [hc]⟩
theorem Ext.livesA {L1 : Loc} (hx : Ext L1 L) {y : AV} {u : Value} (hy : VR B Tg w m L y u) (hl : livesA L1 y = true) : livesA L y = true := by
  cases y <;> simp only [Ax.livesA] at hl ⊢
  case loc k g off => simp only [VR] at hy; have := hx.lives hl hy.1; simp [this]
  case lsl k g off len e => simp only [VR] at hy; have := hx.lives hl hy.1; simp [this]
theorem cellsA_sound {y : AV} {cs : List AV} {u : Value} (hy : VR B Tg w m L y u) (hl : livesA L y = true) (hc : cellsA y = some cs) : VRs B Tg w m L cs u.cells.toList := by
  cases y <;> simp [cellsA] at hc <;> subst hc
  case agg cells => simp only [VR] at hy; obtain ⟨cs, rfl, h⟩ := hy; exact h
  all_goals
    have hcell : u.cells = #[u] := by
      have := oneA_sound (L := L) (w := w) (m := m) (B := B) (Tg := Tg) (v := u) (by rfl) hy
        (fun k g off e => by cases e <;> (simp [livesA] at hl; exact hl.1)) (fun k g off len e ee => by cases ee <;> (simp [livesA] at hl; exact hl.1))
      cases u <;> simp [Value.oneCell', Value.cells] at this ⊢
    rw [hcell]; simp only [VRs]; exact ⟨u, [], rfl, hy, rfl⟩
def stB (P : Program) (L : Loc) (T : TypeId) (x y : AV) : Option Loc :=
  if livesA L y && ((cellsA y).getD []).all (livesA L) then stA P L T x y else none
theorem storeA_sound (h : Rel B Tg N w0 m fr L a w) {T : TypeId} {x y : AV} {v u : Value} (hx : VR B Tg w m L x v) (hy : VR B Tg w m L y u) (hr : stB P L T x y = some L') :
    ∃ w', (Instr.storeAt T v u).run P w = .ok () w' ∧ Rel B Tg N w0 m fr L' a w' := by
  unfold stB at hr
  split at hr
  · rename_i hlive
    simp only [Bool.and_eq_true] at hlive
    unfold stA at hr
    split at hr
    · rename_i k g off
      split at hr
      · rename_i hg
        split at hr
        · rename_i cells hL
          split at hr
          · rename_i cs hcs
            split at hr
            · rename_i hc
              obtain ⟨hsz, hle, hone⟩ := hc
              have hcu := cellsA_sound hy hlive.1 hcs
              have hlen := hcu.length
              rw [hcs] at hlive
              simp only [Option.getD_some, List.all_eq_true] at hlive hone
              have hone' : ∀ v ∈ u.cells.toList, v.oneCell' = true := fun v hv => by
                obtain ⟨i, hi, he⟩ := List.mem_iff_getElem.1 hv
                have hi' : i < cs.length := by omega
                obtain ⟨v', hv', hr'⟩ := hcu.get (List.getElem?_eq_getElem hi')
                rw [List.getElem?_eq_getElem hi] at hv'
                cases hv'
                rw [he] at hr'
                have hm := List.getElem_mem hi'
                exact oneA_sound (hone _ hm) hr' (fun k g off e => by have := hlive.2 _ hm; rw [e] at this; simp [livesA] at this; exact this.1)
                  (fun k g off len e ee => by have := hlive.2 _ hm; rw [ee] at this; simp [livesA] at this; exact this.1)
              obtain ⟨w', h1, h2⟩ := h.store (P := P) hg hL hle hcu hone'
              simp only [VR] at hx
              have hv := hx.2 hg
              cases hr
              refine ⟨w', ?_, h2⟩
              rw [hv]
              simp only [Array.length_toList] at hlen
              simp [Instr.storeAt, Instr.sureAddr, storeVar, run_sizeOf' hsz, hlen, h1]
            · cases hr
          · cases hr
        · cases hr
      · cases hr
    · cases hr
  · cases hr

theorem offA_sound {x : AV} {b off n : Nat} (hx : VR B Tg w m L x (.pointer (some ⟨b, off, none⟩))) : VR B Tg w m L (offA x n) (.pointer (some ⟨b, off + n, none⟩)) := by
  cases x <;> simp only [offA, VR] at hx ⊢
  case loc k g o =>
    refine ⟨hx.1, fun e => ?_⟩
    have := hx.2 e
    simp at this
    obtain ⟨h1, h2⟩ := this
    rw [h1, h2]
  case ref cells t =>
    obtain ⟨_, b', off', e, hb, hc⟩ := hx
    simp at e
    obtain ⟨rfl, rfl⟩ := e
    exact ⟨trivial, b, off + n, rfl, hb, hc.drop n⟩
/-- A pointer that points somewhere. -/
def ptrA (L : Loc) : AV → Bool
  | .loc k g _ => (L k).1 == g && (L k).2.isSome
  | .ref .. => true
  | _ => false
theorem ptrA_sound {L1 : Loc} (hE : Ext L1 L) {x : AV} {v : Value} (h : ptrA L1 x = true) (hx : VR B Tg w m L x v) : ∃ b off, v = .pointer (some ⟨b, off, none⟩) := by
  cases x <;> simp only [ptrA, Bool.false_eq_true] at h <;> simp only [VR] at hx
  case loc k g off => exact ⟨_, _, hx.2 (hE.lives h hx.1).1⟩
  case ref => obtain ⟨_, b, off, rfl, _⟩ := hx; exact ⟨b, off, rfl⟩
def fieldA (P : Program) (L : Loc) (S : TypeId) (x : AV) (f : Nat) : Option AV :=
  match P.underlying S with
  | some (.struct fields) => match fields[f]? with
    | some fd => match szOf P fd.type with
      | some (_ + 1) => if ptrA L x then some (offA x fd.offset) else none
      | _ => none
    | none => none
  | _ => none
theorem fieldA_sound {L1 : Loc} (hE : Ext L1 L) {S : TypeId} {x y : AV} {f : Nat} {v : Value} (hx : VR B Tg w m L x v) (hr : fieldA P L1 S x f = some y) : ∃ u, (Instr.fieldAt S v f).run P w = .ok u w ∧ VR B Tg w m L y u := by
  unfold fieldA at hr
  split at hr
  · rename_i fields hu
    split at hr
    · rename_i fd hf
      split at hr
      · rename_i n hn
        split at hr
        · rename_i hp
          obtain ⟨b, off, rfl⟩ := ptrA_sound hE hp hx
          cases hr
          refine ⟨_, ?_, offA_sound hx⟩
          simp [Instr.fieldAt, run_underlying hu, hf, Instr.sureAddr, fieldPlace, run_sizeOf' hn, addr_add]
        · cases hr
      · cases hr
    · cases hr
  · cases hr
end
end Go.Ax
