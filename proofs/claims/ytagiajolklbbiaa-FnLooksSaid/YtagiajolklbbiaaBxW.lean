/- The executor: that one operation does what it says. -/
import Derived.Test.YtagiajolklbbiaaBxU
import Derived.Laws.AppendOwn
namespace Go.Bx
open Go.Ax
open Go.RowKit (Below)

/-- An operation that yields, in whatever walk. -/
def Yields (P : Program) (o : Oper) (a : Act) (w : World) (R : Value → World → Prop) : Prop :=
  ∀ (K : Act → World → Prop) (Q : Exit → Act → World → Prop), (∀ v w', R v w' → K (a.put o.dst v) w') → o.wp P a w K Q

section
variable {F F' : Nat → Prop} {N : Nat} {pn : Option (Nat × Nat)} {Tg Tg' : AV → Value → Prop} {w0 w w' : World} {sh : Sh} {m m' mr : Mp} {L L' : Loc} {fr : Fr} {a : Act} {P : Program}

theorem Yields.value {o : Oper} {R : Value → World → Prop} {v : Value} (h : (execOp a.eval o).run P w = .ok (.value v) w') (hR : R v w') : Yields P o a w R := fun K Q hK => by
  simp only [Oper.wp, h, Oper.upon]; exact hK v w' hR
theorem Yields.skip {o : Oper} {R : Value → World → Prop} (h : (execOp a.eval o).run P w = .ok .skip w') (hR : R Go.undef w') : Yields P o a w R := fun K Q hK => by
  simp only [Oper.wp, h, Oper.upon]; exact hK _ w' hR
theorem Yields.mono {o : Oper} {R R' : Value → World → Prop} (h : Yields P o a w R) (hR : ∀ v w', R v w' → R' v w') : Yields P o a w R' :=
  fun K Q hK => h K Q fun v w' r => hK v w' (hR v w' r)
/-- A call of a function value. -/
theorem Yields.call {dst : Option Tmp} {x : Operand} {xs : Array Operand} {ats : Array TypeId} {ty : TypeId} {pos : String} {after : Array Edge} {guard : Option (Nat × Bool)} {f : FuncId} {cs : Array Value} {R : Value → World → Prop}
    (hx : a.eval x = .func (.func f) #[] cs) (h : Invokes P f (xs.map a.eval ++ cs) w R) :
    Yields P { dst, op := .call { callee := .value x, args := xs, argTypes := ats }, type := ty, pos, after, guard } a w R := by
  have hrun : (execOp a.eval { dst, op := .call { callee := .value x, args := xs, argTypes := ats }, type := ty, pos, after, guard }).run P w = (callFunc f (xs.map a.eval ++ cs)).run P w := by
    simp [execOp, resolve, Deferred.ofValue, hx, invoke]
  intro K Q hK
  unfold Invokes at h
  unfold Oper.wp
  rw [hrun]
  generalize (callFunc f (xs.map a.eval ++ cs)).run P w = r at h
  cases r with
  | halt h' w' => simp at h
  | ok n w1 =>
    cases n <;> simp only at h <;> simp only [Oper.upon]
    case value v => exact hK v w1 h
    case enter g as =>
      exact h.mono fun e w' ⟨v, he, hR⟩ => by subst he; exact hK v w' hR

/-- What is known behind an operation of the value 'y' that makes the blocks 'os'. -/
def After (F : Nat → Prop) (Tg : AV → Value → Prop) (pn : Option (Nat × Nat)) (N : Nat) (w0 : World) (sh : Sh) (fr : Fr) (a : Act) (t : Nat) (L : Loc) (y : AV) (os : List (Nat × Blk)) (v : Value) (w' : World) : Prop :=
  ∃ m', Rel F Tg pn N w0 sh m' fr (adoptL t L os) a w' ∧ VR F Tg w' m' (adoptL t L os) y v
/-- The new slice of an append may lie where the old one lies, and no other may. -/
def AppOk (sh : Sh) (d k : Nat) : Prop := sh d k ∧ (∀ i, sh i k → i = d) ∧ ∀ i, ¬ sh k i

theorem After.same {t : Nat} {y : AV} {v : Value} (h : Rel F Tg pn N w0 sh m fr L a w) (hv : VR F Tg w m L y v) : After F Tg pn N w0 sh fr a t L y [] v w := ⟨m, h, hv⟩
theorem After.draw {t : Nat} {y : AV} {v : Value} {d : Nat} (h : Rel F Tg pn N w0 sh m fr L a w) (hv : VR F Tg w m L y v) : After F Tg pn N w0 sh fr a t L y [] v { w with drawn := d } :=
  ⟨m, h.world (Below.draw w d), hv.keep (Keeps.of_kept (.of_below (Below.draw w d) h.sub))⟩
theorem After.alloc {t : Nat} (h : Rel F Tg pn N w0 sh m fr L a w) (hfr : L (t * 4 + 0) = .free) (hLK : t * 4 + 0 ≠ LK) {cells : List AV} {c : Array Value} (T : TypeId) (hc : VRs F Tg w m L cells c.toList) :
    After F Tg pn N w0 sh fr a t L (.loc (t * 4 + 0) 0) [(0, .av cells)] (.pointer (some ⟨w.heap.size, 0, none⟩)) (w.alloc (.cells c T)) :=
  ⟨_, h.alloc hfr hLK (B := .av cells) T hc, by simp [VR, adoptL]⟩
theorem After.allocSlice {t : Nat} (h : Rel F Tg pn N w0 sh m fr L a w) (hfr : L (t * 4 + 0) = .free) (hLK : t * 4 + 0 ≠ LK) {r : RK} {xs : List r.T} {c : Array Value} {cap : Nat} (T : TypeId) (hne : xs ≠ []) (hc : VRs F Tg w m L (rowsA r xs) c.toList) (h1 : xs.length ≤ cap) (h2 : cap * r.w ≤ c.size) :
    After F Tg pn N w0 sh fr a t L (.osl (t * 4 + 0)) [(0, .tab r xs)] (.slice (some ⟨w.heap.size, 0, none⟩) xs.length cap) (w.alloc (.cells c T)) :=
  ⟨_, h.alloc hfr hLK (B := .tab r xs) T hc, by
    simp only [VR, adoptL, upd_same]
    refine ⟨by simp, fun r' ys e => ?_⟩
    cases e
    exact .inr ⟨hne, cap, rfl, h1, h2⟩⟩
theorem After.emptySlice {t : Nat} (h : Rel F Tg pn N w0 sh m fr L a w) (hfr : L (t * 4 + 0) = .free) (hLK : t * 4 + 0 ≠ LK) (r : RK) (b : Option Addr) :
    After F Tg pn N w0 sh fr a t L (.osl (t * 4 + 0)) [(0, .tab r [])] (.slice b 0 0) w :=
  ⟨_, h.newEmpty hfr hLK r, by
    simp only [VR, adoptL, upd_same]
    refine ⟨by simp, fun r' ys e => ?_⟩
    cases e
    exact .inl ⟨rfl, b, rfl⟩⟩
theorem parts_of (h : Rel F Tg pn N w0 sh m fr L a w) {L1 : Loc} (hE : Ext L1 L) : ∀ (ps : List (Nat × Operand)), (ps.map (·.2)).all (fun x => livesA L1 (evA fr x)) = true → Parts F Tg w m L (ps.map fun p => (p.1, evA fr p.2)) (ps.map fun p => (p.1, a.eval p.2))
  | [], _ => by simp [Parts]
  | (i, x) :: ps, hl => by
    simp only [List.map_cons, List.all_cons, Bool.and_eq_true] at hl
    simp only [List.map_cons, Parts]
    exact ⟨_, _, rfl, h.ev x, hE.livesA (h.ev x) hl.1, parts_of h hE ps hl.2⟩
theorem coArgs_sound : ∀ (ts : List TypeId) {xs : List AV} {vs : List Value}, VRs F Tg w m L xs vs → VRs F Tg w m L (coArgs P ts xs) vs
  | [], xs, _, h => by cases xs <;> exact h
  | T :: ts, [], _, h => h
  | T :: ts, x :: xs, _, h => by
    simp only [VRs] at h
    obtain ⟨v, vs', rfl, h1, h2⟩ := h
    simp only [coArgs, VRs]
    exact ⟨v, vs', rfl, coA_sound h1, coArgs_sound ts h2⟩

theorem adopt_live {t : Nat} : ∀ {os : List (Nat × Blk)} {L : Loc}, (os.map (·.1)).Nodup → ∀ p ∈ os, adoptL t L os (t * 4 + p.1) = .live p.2
  | [], _, _, p, hp => by cases hp
  | (i, b) :: os, L, hnd, p, hp => by
    simp only [List.map_cons, List.nodup_cons] at hnd
    rw [adoptL_cons]
    rcases List.mem_cons.1 hp with rfl | hp
    · rw [adoptL_other t _ os _ fun q hq e => hnd.1 (by
        have : i = q.1 := by omega
        exact this ▸ List.mem_map_of_mem hq), upd_same]
    · exact adopt_live hnd.2 p hp
theorem callK_sound {X : Cx} (h : Rel F Tg pn N w0 sh m fr L a w) {L1 : Loc} (hE : Ext L1 L) {t : Nat} {f : FuncId} {args : List AV} {cargs : Array Value}
    (hargs : VRs F Tg w m L args cargs.toList) {K : AV → List (Nat × Blk) → List Nat → Prop} (hc : callK X L1 t f args K) :
    ∃ y os ks, K y os ks ∧ ((∀ p ∈ os, L (t * 4 + p.1) = .free) → (∀ p ∈ os, t * 4 + p.1 ≠ LK) → (os.map (·.1)).Nodup → Invokes X.P f cargs w (After F Tg pn N w0 sh fr a t L y os)) := by
  unfold callK at hc
  rw [forceL_eq] at hc
  obtain ⟨r, hd, hK⟩ := hc
  refine ⟨_, _, _, hK, fun hfree hLK hnd => ?_⟩
  have hl : ∀ k b, L k = .live b → b.has → (m k).1 < w.heap.size := fun k b e hh => h.heap.lt e hh
  have := hd (tgOf F Tg w m L) w m cargs (hargs.map fun x v hv => fz_sound h.heap (G := fun b => b < w.heap.size) (K := fun _ => True) h.sub (fun k b _ e hh => hl k b e hh) hE (fun _ _ _ => trivial) 4 x v hv)
  refine this.mono fun v w' ⟨hb, mr, hrv, hinj⟩ => ?_
  obtain ⟨m', h1, h2, h3⟩ := (h.world hb).adopt (B0 := w.heap.size) (mr := mr) t h.sub (owns 4 r) hnd hfree hLK (owns_block 4 r v hrv) hinj (by
    intro k c hk hh p hp hph e
    have := hl k c hk hh
    rcases owns_block 4 r v hrv p hp with ⟨r', e'⟩ | ⟨_, h1, _⟩
    · rw [e'] at hph; exact hph rfl
    · omega)
  refine ⟨m', h1, ?_⟩
  have hk : Keeps F w w' m m' L (adoptL t L (owns 4 r)) := (Keeps.of_kept (.of_below hb h.sub)).trans h2
  exact imp_sound (t := t) hk (fun k b e => by rw [e]; simp) 4 r v hrv fun p hp => ⟨h3 p hp, adopt_live hnd p hp⟩

/-! ### append -/
theorem heap_setCells {b : Nat} {t : TypeId} : ∀ (vs : List Value) (c : Array Value) (o : Nat) (w : World), w.heap[b]? = some (.cells c t (0, 0)) →
    (w.setCells b o vs).heap[b]? = some (.cells (setsC c.toList o vs).toArray t (0, 0)) ∧ (w.setCells b o vs).heap.size = w.heap.size ∧ (∀ k, k ≠ b → (w.setCells b o vs).heap[k]? = w.heap[k]?) ∧
      (w.setCells b o vs).os = w.os ∧ (w.setCells b o vs).tape = w.tape ∧ (w.setCells b o vs).output = w.output
  | [], c, o, w, h => ⟨by simpa [World.setCells, setsC] using h, rfl, fun _ _ => rfl, rfl, rfl, rfl⟩
  | v :: vs, c, o, w, h => by
    have hset : (w.setCell ⟨b, o, none⟩ v).heap[b]? = some (.cells (c.setIfInBounds o v) t (0, 0)) := by
      simp [World.setCell, Array.getElem?_modify, h]
    obtain ⟨h1, h2, h3, h4, h5, h6⟩ := heap_setCells vs (c.setIfInBounds o v) (o + 1) (w.setCell ⟨b, o, none⟩ v) hset
    refine ⟨by simp only [World.setCells]; rw [h1]; simp [setsC, Array.toList_setIfInBounds], by simp only [World.setCells]; rw [h2]; simp, fun k hk => by simp only [World.setCells]; rw [h3 k hk]; exact Below.heap_setCell _ _ _ _ hk, h4, h5, h6⟩
theorem setsC_get : ∀ (vs c : List Value) (o i : Nat), o + vs.length ≤ c.length → (setsC c o vs)[i]? = if i < o then c[i]? else if i < o + vs.length then vs[i - o]? else c[i]?
  | [], c, o, i, _ => by
    simp only [setsC, List.length_nil, Nat.add_zero]
    split <;> simp_all
  | v :: vs, c, o, i, h => by
    simp only [List.length_cons] at h
    rw [setsC, setsC_get vs (c.set o v) (o + 1) i (by simp; omega)]
    simp only [List.length_cons]
    by_cases h1 : i < o
    · rw [if_pos (by omega), if_pos h1, List.getElem?_set_ne (by omega)]
    · rw [if_neg h1]
      by_cases h2 : i = o
      · subst h2
        rw [if_pos (by omega), if_pos (by omega), List.getElem?_set_self (by omega)]
        simp
      · rw [if_neg (by omega)]
        by_cases h3 : i < o + 1 + vs.length
        · rw [if_pos h3, if_pos (by omega), show i - o = (i - (o + 1)) + 1 by omega, List.getElem?_cons_succ]
        · rw [if_neg h3, if_neg (by omega), List.getElem?_set_ne (by omega)]
theorem RowsIn.append {r : RK} {xs ys : List r.T} {vs : List Value} (h : RowsIn r xs vs) (hy : ∀ (i : Nat) (x : AV), (rowsA r ys)[i]? = some x → ∃ c, vs[xs.length * r.w + i]? = some c ∧ SV x c) : RowsIn r (xs ++ ys) vs := by
  intro i x hx
  rw [rowsA_append] at hx
  by_cases hi : i < (rowsA r xs).length
  · rw [List.getElem?_append_left hi] at hx; exact h i x hx
  · rw [List.getElem?_append_right (by omega), rowsA_len] at hx
    rw [rowsA_len] at hi
    have := hy _ x hx
    rwa [show xs.length * r.w + (i - xs.length * r.w) = i by omega] at this
theorem SV.one {x : AV} {v : Value} (h : SV x v) : v.oneCell' = true := by
  cases x <;> simp only [SV] at h
  case bool => subst h; rfl
  case int => subst h; rfl
  case flt => obtain ⟨b, rfl, _⟩ := h; rfl
  case cpx => obtain ⟨b, c, rfl, _⟩ := h; rfl
/-- The cells of rows, read. -/
theorem rows_news {r : RK} {ys : List r.T} {b off : Nat} (h : RowsAt w r ys b off) : ∃ news : List Value, news.length = ys.length * r.w ∧ (∀ (j : Nat) u, news[j]? = some u → w.cell? ((⟨b, off, none⟩ : Addr).add j) = some u) ∧ (∀ u ∈ news, u.oneCell' = true) ∧ RowsIn r ys news := by
  have key : ∀ j, j < ys.length * r.w → ∃ x c, (rowsA r ys)[j]? = some x ∧ w.cell? ⟨b, off + j, none⟩ = some c ∧ SV x c := fun j hj => by
    have hj' : j < (rowsA r ys).length := by rw [rowsA_len]; exact hj
    obtain ⟨c, hc, hs⟩ := h j _ (List.getElem?_eq_getElem hj')
    exact ⟨_, c, List.getElem?_eq_getElem hj', hc, hs⟩
  have get : ∀ j, ((List.range (ys.length * r.w)).map fun j => (w.cell? ⟨b, off + j, none⟩).getD Go.undef)[j]? = if j < ys.length * r.w then some ((w.cell? ⟨b, off + j, none⟩).getD Go.undef) else none := fun j => by
    by_cases hj : j < ys.length * r.w
    · rw [if_pos hj]; simp [hj]
    · rw [if_neg hj]; simp; omega
  refine ⟨(List.range (ys.length * r.w)).map fun j => (w.cell? ⟨b, off + j, none⟩).getD Go.undef, by simp, fun j u hu => ?_, fun u hu => ?_, fun j x hx => ?_⟩
  · rw [get] at hu
    split at hu
    · rename_i hj
      obtain ⟨x, c, _, hc, _⟩ := key j hj
      cases hu
      rw [addr_add, hc]; rfl
    · cases hu
  · obtain ⟨j, hj, rfl⟩ := List.mem_map.1 hu
    obtain ⟨x, c, _, hc, hs⟩ := key j (List.mem_range.1 hj)
    rw [hc]; exact hs.one
  · have hj : j < ys.length * r.w := by
      have := (List.getElem?_eq_some_iff.1 hx).1
      rwa [rowsA_len] at this
    obtain ⟨x', c, hx', hc, hs⟩ := key j hj
    rw [hx] at hx'; cases hx'
    exact ⟨c, by rw [get, if_pos hj, hc]; rfl, hs⟩
theorem rowsOf_sound (h : HP F Tg w m L) {L1 : Loc} (hE : Ext L1 L) {x : AV} {v : Value} {r : RK} {xs : List r.T} (hx : VR F Tg w m L x v) (hr : rowsOf L1 x = some ⟨r, xs⟩) :
    (∃ b, v = .slice b 0 0 ∧ xs = []) ∨ ∃ b off cap, v = .slice (some ⟨b, off, none⟩) xs.length cap ∧ RowsAt w r xs b off := by
  unfold rowsOf at hr
  split at hr
  · cases hr
    simp only [VR] at hx
    obtain ⟨_, h1 | ⟨b, off, cap, e, _, _, hc⟩⟩ := hx
    · exact .inl h1
    · exact .inr ⟨b, off, cap, e, hc⟩
  · rename_i k
    split at hr
    · rename_i r' xs' hL
      cases hr
      simp only [VR] at hx
      have hLk := hE k _ hL hx.1
      rcases hx.2 _ _ hLk with ⟨e, b, e'⟩ | ⟨hne, cap, e, _⟩
      · exact .inl ⟨b, e', e⟩
      · obtain ⟨_, c, t, h2, h3, h4⟩ := h k _ hLk hne
        exact .inr ⟨_, _, cap, e, h4.rows.at h2⟩
    · cases hr
  · cases hr
    simp only [VR] at hx
    obtain ⟨b, e⟩ := hx
    exact .inl ⟨b, e, rfl⟩
  · cases hr
theorem src_of {T' : TypeId} (hT' : isSli P T' = true) (h : HP F Tg w m L) {L1 : Loc} (hE : Ext L1 L) {x : AV} {v : Value} {r : RK} {xs : List r.T} (hx : VR F Tg w m L x v) (hr : rowsOf L1 x = some ⟨r, xs⟩) :
    ∃ news, Src P r.w T' v xs.length news w ∧ RowsIn r xs news := by
  have hk : ∃ e, P.underlying T' = some (.slice e) := by
    unfold isSli at hT'; split at hT'
    · rename_i e he; exact ⟨e, he⟩
    · cases hT'
  obtain ⟨e, he⟩ := hk
  rcases rowsOf_sound h hE hx hr with ⟨b, rfl, rfl⟩ | ⟨b, off, cap, rfl, hrows⟩
  · refine ⟨[], ?_, fun i x hx => by simp [rowsA] at hx⟩
    cases b with
    | none => exact Src.ofNil w he 0
    | some b => exact Src.ofSlice w he b 0 0 [] (by simp) (fun j u hu => by simp at hu) (fun u hu => by cases hu)
  · obtain ⟨news, h1, h2, h3, h4⟩ := rows_news hrows
    exact ⟨news, Src.ofSlice w he _ _ cap news h1 h2 h3, h4⟩

theorem Rel.weaken (h : Rel F Tg pn N w0 sh m fr L a w) {sh' : Sh} (hs : ∀ i j, sh i j → sh' i j) : Rel F Tg pn N w0 sh' m fr L a w :=
  ⟨h.kept, h.sub, h.heap, fun k k' c c' h1 hb1 h2 hb2 e => by
    rcases h.inj k k' c c' h1 hb1 h2 hb2 e with e | e | e
    · exact .inl e
    · exact .inr (.inl (hs _ _ e))
    · exact .inr (.inr (hs _ _ e)), h.pin, h.size, h.defers, h.tmps⟩

theorem appK_sound {X : Cx} (h : Rel F Tg pn N w0 sh m fr L a w) {L1 : Loc} (hE : Ext L1 L) {t : Nat} {T T' ty : TypeId} (hT' : isSli X.P T' = true) {x y : AV} {u v : Value} (hx : VR F Tg w m L x u) (hy : VR F Tg w m L y v)
    {K : AV → List (Nat × Blk) → List Nat → Prop} (hc : appK X.P L1 t T x y K) :
    ∃ z os ks, K z os ks ∧ ((∀ p ∈ os, L (t * 4 + p.1) = .free) → (∀ p ∈ os, t * 4 + p.1 ≠ LK) → (∀ k ∈ ks, AppOk sh (t * 4) k) → ∃ q w', (Builtin.append_ #[T, T'] ty #[u, v]).run X.P w = .ok q w' ∧ After F Tg pn N w0 sh fr a t L z os q w') := by
  unfold appK at hc
  split at hc
  case h_2 => exact hc.elim
  rename_i e he
  split at hc
  case h_2 => exact hc.elim
  rename_i r z bytes hrk hz hby
  split at hc
  case h_2 => exact hc.elim
  rename_i r' ys' hchk hrows
  simp only [Bool.and_eq_true, Nat.ble_eq, Nat.beq_eq] at hchk
  obtain ⟨hb1024, hzsz⟩ := hchk
  split at hc
  case h_2 => exact hc.elim
  rename_i ys hcast
  obtain ⟨rfl, hrowsA, hlen⟩ := castRows_eq hcast
  obtain ⟨news, hsrc, hnews⟩ := src_of (P := X.P) hT' h.heap hE hy hrows
  have hnews : RowsIn r ys news := fun i x hx => hnews i x (by rw [← hrowsA]; exact hx)
  rw [← hlen] at hsrc
  -- facts of the type
  have hinfo : ∃ i, X.P.info? e = some i ∧ i.size = r.w ∧ i.zero = some z ∧ i.bytes = bytes := by
    have h1 := rowKind_sz hrk
    unfold szOf at h1
    cases hi : X.P.info? e with
    | none => simp [hi] at h1
    | some i =>
      simp [hi] at h1
      simp [zeroOf, hi] at hz
      simp [hi] at hby
      exact ⟨i, rfl, h1, hz, hby⟩
  obtain ⟨i, hi, hsz, hiz, hib⟩ := hinfo
  have hnl : news.length = ys.length * r.w := hsrc.newsLen
  rw [← hsz] at hsrc
  have hw := r.w_pos
  -- the arm that grows
  have grow : ∀ (xs : List r.T) (base : Option Addr) (cap : Nat) (olds : List Value), olds.length = xs.length * r.w → RowsIn r xs olds → u = .slice base xs.length cap → cap < xs.length + ys.length → xs.length + ys.length ≤ 67108864 →
      (Builtin.firstCells i.size xs.length (.slice base xs.length cap)).run X.P w.drew = .ok olds.toArray w.drew → L (t * 4 + 0) = .free → t * 4 + 0 ≠ LK →
      ∃ q w', (Builtin.append_ #[T, T'] ty #[u, v]).run X.P w = .ok q w' ∧ After F Tg pn N w0 sh fr a t L (.osl (t * 4 + 0)) [(0, .tab r (xs ++ ys))] q w' := by
    intro xs base cap olds hol hor hu hcap hle hold hfree hLK
    have hge := grownCap_ge w (xs.length + ys.length) cap e
    have hr := run_append_grow_src (P := X.P) w T T' ty e i z he hi hiz base xs.length cap olds hold v ys.length news hsrc hcap (by omega)
      (growslice_fits hcap (by rw [hib]; exact Nat.le_trans (Nat.mul_le_mul hle hb1024) (by decide)))
    rw [← hu] at hr
    refine ⟨_, _, hr, ?_⟩
    have hd : Rel F Tg pn N w0 sh m fr L a w.drew := h.world (Below.draw w _)
    have hrows : RowsIn r (xs ++ ys) (olds ++ news) := by
      refine RowsIn.append (fun q x hx => ?_) fun q x hx => ?_
      · obtain ⟨c, hc, hs⟩ := hor q x hx
        exact ⟨c, by rw [List.getElem?_append_left (List.getElem?_eq_some_iff.1 hc).1]; exact hc, hs⟩
      · obtain ⟨c, hc, hs⟩ := hnews q x hx
        exact ⟨c, by rw [List.getElem?_append_right (by omega), hol, Nat.add_sub_cancel_left]; exact hc, hs⟩
    have hzc : (Builtin.zeroCells z.cells (grownCap w (xs.length + ys.length) cap e - (xs.length + ys.length))).size = (grownCap w (xs.length + ys.length) cap e - (xs.length + ys.length)) * r.w := by
      rw [size_zeroCells, hzsz]
    have hlenApp : (xs ++ ys).length = xs.length + ys.length := List.length_append
    have hpre : RowsIn r (xs ++ ys) ((olds ++ news).toArray ++ Builtin.zeroCells z.cells (grownCap w (xs.length + ys.length) cap e - (xs.length + ys.length))).toList := fun q x hx => by
      obtain ⟨c, hc, hs⟩ := hrows q x hx
      refine ⟨c, ?_, hs⟩
      rw [Array.toList_append, List.getElem?_append_left (by simpa using (List.getElem?_eq_some_iff.1 hc).1)]
      simpa using hc
    have hnew := (hd.world ((Below.refl _ _).alloc (Nat.le_refl _) (.cells ((olds ++ news).toArray ++ Builtin.zeroCells z.cells (grownCap w (xs.length + ys.length) cap e - (xs.length + ys.length))) e))).new (k := t * 4 + 0) hfree hLK w.heap.size (.tab r (xs ++ ys))
      ((olds ++ news).toArray ++ Builtin.zeroCells z.cells (grownCap w (xs.length + ys.length) cap e - (xs.length + ys.length))) e (by show (w.heap.push _)[w.heap.size]? = _; simp) (fun hF => absurd (h.sub _ hF) (Nat.lt_irrefl _))
      (fun k' c' hc' hh' _ e' => absurd (h.heap.lt hc' hh') (by omega)) hpre.pre
    refine ⟨_, hnew, ?_⟩
    simp only [VR, adoptL, upd_same]
    refine ⟨by simp, fun r' zs e' => ?_⟩
    cases e'
    refine .inr ⟨fun e => by have := congrArg List.length e; simp only [List.length_nil] at this; omega, ?_⟩
    rw [hlenApp]
    refine ⟨_, rfl, hge, ?_⟩
    rw [Array.size_append, hzc]
    simp only [List.size_toArray, List.length_append, hol, hnl, ← Nat.add_mul]
    exact Nat.mul_le_mul_right _ (by omega)
  have empty : ∀ (base : Option Addr), u = .slice base 0 0 → ys.length ≤ 67108864 → L (t * 4 + 0) = .free → t * 4 + 0 ≠ LK →
      ∃ q w', (Builtin.append_ #[T, T'] ty #[u, v]).run X.P w = .ok q w' ∧ After F Tg pn N w0 sh fr a t L (.osl (t * 4 + 0)) [(0, .tab r ys)] q w' := by
    intro base hu hle hfree hLK
    by_cases hys : ys = []
    · subst hys
      refine ⟨.slice base 0 0, w, ?_, After.emptySlice h hfree hLK r base⟩
      have hn : news = [] := List.eq_nil_of_length_eq_zero (by simpa using hnl)
      subst hn
      rw [hu]
      have hl := hsrc.len w
      have hcl := hsrc.cells
      simp only [List.length_nil] at hl hcl
      rcases hsrc.kind with ⟨e', hk⟩ | hk <;> cases base <;> simp [Builtin.append_, run_underlying he, run_underlying hk, sizeOf, typeInfo, hi, hl, hcl, storeCells]
    · have hpos : 0 < ys.length := List.length_pos_iff.2 hys
      have := grow [] base 0 [] (by simp) (fun q x hx => by simp [rowsA] at hx) hu (by simp; omega) (by simp; omega) (by
        cases base with
        | none => exact run_firstCells_none w.drew _ _ _ _
        | some b => exact run_firstCells_some w.drew _ 0 b 0 0 [] (by simp) (fun j u hu => by simp at hu)) hfree hLK
      simpa using this
  split at hc
  · rename_i r0
    simp only [VR] at hx
    obtain ⟨base, hu⟩ := hx
    exact ⟨_, _, _, hc.2, fun hfree hLK _ => empty base hu hc.1 (hfree (0, .tab r ys) (by simp)) (hLK (0, .tab r ys) (by simp))⟩
  · rename_i k
    split at hc
    case h_2 => exact hc.elim
    rename_i r'' xs' hL
    split at hc
    case h_2 => exact hc.elim
    rename_i xs hcast2
    obtain ⟨rfl, hrowsA2, hlen2⟩ := castRows_eq hcast2
    refine ⟨_, _, _, hc.2, fun hfree hLK happ => ?_⟩
    have hfr := hfree _ (List.mem_singleton.2 rfl)
    have hLK := hLK _ (List.mem_singleton.2 rfl)
    simp only at hfr hLK
    obtain ⟨hsh, hU, hV⟩ := happ k (by simp)
    simp only [VR] at hx
    have hLk := hE k _ hL hx.1
    rcases hx.2 _ _ hLk with ⟨hxe, base, hu⟩ | ⟨hxne, cap, hu, hcap1, hcap2⟩
    · have hxs : xs = [] := List.eq_nil_of_length_eq_zero (by rw [hlen2, hxe]; rfl)
      rw [hxs, List.nil_append]
      rw [hxs] at hc
      exact empty base hu (by simpa using hc.1) hfr hLK
    obtain ⟨hnF, c, ct, hheap, hcs, hpre⟩ := h.heap k _ hLk hxne
    have hold : RowsIn r xs c.toList := fun i x hx => hpre.rows i x (by rw [← hrowsA2]; exact hx)
    rw [← hlen2] at hu hcap1
    have hkd : k ≠ t * 4 + 0 := fun e' => by rw [e', hfr] at hLk; cases hLk
    by_cases hroom : xs.length + ys.length ≤ cap
    · -- there is room
      have hfit : xs.length * r.w + news.length ≤ c.size := by
        rw [hnl, ← Nat.add_mul, hcs]
        exact Nat.le_trans (Nat.mul_le_mul_right _ hroom) hcap2
      have hr := run_append_room_src (P := X.P) w T T' ty e i he hi (m k).1 0 xs.length cap v ys.length news hsrc hroom
        (fun j hj => by
          rw [hsz, Nat.zero_add]
          simp only [World.cell?, hheap]
          simp; omega)
        (fun j hj => by simp [World.frozen?, hheap])
      rw [hsz, Nat.zero_add] at hr
      rw [hu]
      refine ⟨_, _, hr, ?_⟩
      obtain ⟨g1, g2, g3, g4, g5, g6⟩ := heap_setCells news c (xs.length * r.w) w hheap
      generalize hW : w.setCells (m k).1 (xs.length * r.w) news = W at g1 g2 g3 g4 g5 g6 ⊢
      have hkp : Kept F w W := ⟨g4, g5, g6, by omega, fun i hi => g3 i (fun e' => hnF (e' ▸ hi))⟩
      have hk : Keeps F w W m m L L := .of_kept hkp
      have hset := setsC_get news c.toList (xs.length * r.w)
      have hfit' : xs.length * r.w + news.length ≤ c.toList.length := by simpa using hfit
      have hrowsOld : RowsIn r xs (setsC c.toList (xs.length * r.w) news) := fun q x hx => by
        obtain ⟨d, hd, hs⟩ := hold q x hx
        have hq : q < xs.length * r.w := by
          have := (List.getElem?_eq_some_iff.1 hx).1
          rwa [rowsA_len] at this
        exact ⟨d, by rw [hset q hfit', if_pos hq]; exact hd, hs⟩
      have hrowsNew : RowsIn r (xs ++ ys) (setsC c.toList (xs.length * r.w) news) := hrowsOld.append fun q x hx => by
        obtain ⟨d, hd, hs⟩ := hnews q x hx
        have hq := (List.getElem?_eq_some_iff.1 hd).1
        exact ⟨d, by rw [hset _ hfit', if_neg (by omega), if_pos (by omega), Nat.add_sub_cancel_left]; exact hd, hs⟩
      have hrel : Rel F Tg pn N w0 sh m fr L a W := by
        refine ⟨h.kept.trans hkp, fun b hb => by have := h.sub b hb; omega, fun i B hB hBh => ?_, h.inj, h.pin, h.size, h.defers, fun t => (h.tmps t).keep hk⟩
        obtain ⟨e1, c1, t1, e2, e3, e4⟩ := h.heap i B hB hBh
        by_cases hik : (m i).1 = (m k).1
        · rcases h.inj i k _ _ hB hBh hLk hxne hik with e' | e' | e'
          · subst e'
            rw [hLk] at hB; cases hB
            refine ⟨hnF, _, ct, g1, by simp [setsC_length, hcs], ?_⟩
            have : RowsIn _ xs' (setsC c.toList (xs.length * r.w) news) := fun q x hx => hrowsOld q x (by rw [hrowsA2]; exact hx)
            exact this.pre
          · have := hU i e'
            rw [this, show t * 4 = t * 4 + 0 by omega, hfr] at hB; cases hB
          · exact absurd e' (hV i)
        · exact ⟨e1, c1, t1, by rw [g3 _ hik]; exact e2, e3, e4.keep hk⟩
      have hnew := hrel.new (k := t * 4 + 0) hfr hLK (m k).1 (.tab r (xs ++ ys)) (setsC c.toList (xs.length * r.w) news).toArray ct g1 hnF
        (fun k' c' hc' hh' _ e' => by
          rcases h.inj k' k _ _ hc' hh' hLk hxne e' with e2 | e2 | e2
          · rw [e2]; exact hsh
          · have := hU k' e2
            rw [this, show t * 4 = t * 4 + 0 by omega, hfr] at hc'; cases hc'
          · exact absurd e2 (hV k')) (hrowsNew.pre)
      refine ⟨_, hnew, ?_⟩
      simp only [VR, adoptL, upd_same]
      refine ⟨by simp, fun r'' zs e' => ?_⟩
      cases e'
      have hxne2 : xs ≠ [] := fun e => hxne (List.eq_nil_of_length_eq_zero (by rw [← hlen2, e]; rfl))
      refine .inr ⟨fun e => hxne2 (List.append_eq_nil_iff.1 e).1, cap, by simp, by simpa using hroom, ?_⟩
      simp only [List.size_toArray, setsC_length, Array.length_toList, hcs]
      exact hcap2
    · -- there is none
      obtain ⟨olds, ho1, ho2, _, ho4⟩ := rows_news (hold.at hheap)
      exact grow xs _ cap olds ho1 ho4 hu (by omega) hc.1 (run_firstCells_some w.drew _ _ _ _ _ olds (by rw [ho1, hsz]) (fun j u hu => ho2 j u hu)) hfr hLK
  · exact hc.elim
end
end Go.Bx
