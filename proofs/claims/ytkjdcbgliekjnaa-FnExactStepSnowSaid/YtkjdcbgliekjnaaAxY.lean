/- What a function does, from its code. -/
import Derived.Test.YtkjdcbgliekjnaaAxX
namespace Go.Ax
open Go.RowKit (Below)

def initF (args : List AV) : Fr := fun t => args.getD t .skip
def resA (P : Program) (fr : Fr) (L : Loc) : ResultVar → Option AV
  | .tmp t => some (fr t)
  | .cell x T => ldA P L T (fr x)
def resAs (P : Program) (fr : Fr) (L : Loc) : List ResultVar → Option (List AV)
  | [] => some []
  | r :: rs => match resA P fr L r, resAs P fr L rs with
    | some x, some xs => some (x :: xs)
    | _, _ => none
def retA (P : Program) (fr : Fr) (L : Loc) (rs : List ResultVar) : Option AV :=
  match resAs P fr L rs with
  | some [x] => some x
  | some xs => some (.tup xs)
  | none => none
/-- What leaves the function: slices of its own whose keys are listed go over to the caller. -/
def exV : Nat → List Nat → Loc → AV → AV
  | 0, _, _, x => pl x
  | n + 1, ks, L, x => match x with
    | .lsl k g off len e => if (L k).1 = g ∧ off = 0 ∧ k ∈ ks then (match (L k).2 with
      | some cells => if len * e ≤ cells.length then .own (ks.idxOf k) e len ((cells.take (len * e)).map pl) else .undef
      | none => .undef) else .undef
    | .loc .. | .own .. => .undef
    | .agg cells => .agg (cells.map (exV n ks L))
    | .tup vs => .tup (vs.map (exV n ks L))
    | .fn f caps => .fn f (caps.map fun _ => .undef)
    | x => x
/-- The claim that a function ends so. -/
def Ends (X : Cx) (fn : Func) (ks : List Nat) (r : AV) : Ex → Fr → Loc → Prop
  | .exit _, _, _ => False
  | _, fr, L => match retA X.P fr L fn.results.toList with
    | some x => exV 4 ks L x = r
    | none => False

section
variable {B B0 N : Nat} {Tg Tg' : AV → Value → Prop} {w0 w w' : World} {m m' mr : Mp} {L L' : Loc} {fr : Fr} {a : Act} {X : Cx} {P : Program}

theorem pl_RV {x : AV} {v : Value} (h : VR B Tg w m L x v) : RV B Tg w mr (pl x) v := by
  unfold pl; split
  · rename_i hp; cases x <;> simp [plain] at hp <;> (simp only [VR, RV] at h ⊢; try exact h)
  · simp [RV]
mutual
theorem exV_sound (h : HP B Tg w m L) (ks : List Nat) : ∀ (n : Nat) (x : AV) (v : Value), VR B Tg w m L x v → RV B Tg w (fun i => m (ks.getD i 0)) (exV n ks L x) v
  | 0, x, v, hv => pl_RV hv
  | n + 1, x, v, hv => by
    cases x with
    | lsl k g off len e =>
      simp only [exV]
      split
      · rename_i hg
        obtain ⟨hg, rfl, hk⟩ := hg
        split
        · rename_i cells hc
          split
          · rename_i hle
            simp only [VR] at hv
            obtain ⟨cap, rfl, h1, h2⟩ := hv.2 hg
            obtain ⟨h3, c, t, h4, h5, h6⟩ := h k cells hc
            have hki : ks.getD (ks.idxOf k) 0 = k := by
              have hlt := List.idxOf_lt_length_of_mem hk
              rw [List.getD_eq_getElem?_getD, List.getElem?_eq_getElem hlt]
              simp
            simp only [RV, hki]
            refine ⟨fun x hx => ?_, by simp; omega, h3, ⟨c, t, h4, h5, ?_⟩, cap, rfl, h1, by omega⟩
            · obtain ⟨y, _, rfl⟩ := List.mem_map.1 hx; exact plain_pl y
            · refine VRpre.of_get fun i x hx => ?_
              rw [List.getElem?_map, List.getElem?_take] at hx
              split at hx
              · cases hci : cells[i]? with
                | none => simp [hci] at hx
                | some y =>
                  simp [hci] at hx; subst hx
                  obtain ⟨u, hu, hr⟩ := h6.get hci
                  exact ⟨u, hu, hr.pl⟩
              · cases hx
          · simp [RV]
        · simp [RV]
      · simp [RV]
    | loc k g off => simp [exV, RV]
    | own k e len cells => simp [exV, RV]
    | ref cells t => simp only [exV, RV, VR] at hv ⊢; exact hv.1
    | sli e len cells t => simp only [exV, RV, VR] at hv ⊢; exact hv.1
    | agg cells =>
      simp only [exV, RV, VR] at hv ⊢
      obtain ⟨cs, e, hc⟩ := hv
      exact ⟨cs, e, exVs_sound h ks n _ _ hc⟩
    | tup vs =>
      simp only [exV, RV, VR] at hv ⊢
      obtain ⟨cs, e, hc⟩ := hv
      exact ⟨cs, e, exVs_sound h ks n _ _ hc⟩
    | fn f caps =>
      simp only [exV, RV, VR] at hv ⊢
      obtain ⟨cs, e, hc⟩ := hv
      refine ⟨cs, e, ?_⟩
      clear e
      generalize cs.toList = l at hc
      induction caps generalizing l with
      | nil => simp only [VRs, RVs, List.map_nil] at hc ⊢; exact hc
      | cons x xs ih =>
        simp only [VRs, RVs, List.map_cons] at hc ⊢
        obtain ⟨v, vs, rfl, h1, h2⟩ := hc
        exact ⟨v, vs, rfl, by simp [RV], ih vs h2⟩
    | undef => simp [exV, RV]
    | skip => simp only [exV, RV, VR] at hv ⊢; exact hv
    | bool b => simp only [exV, RV, VR] at hv ⊢; exact hv
    | int k n => simp only [exV, RV, VR] at hv ⊢; exact hv
    | flt k x => simp only [exV, RV, VR] at hv ⊢; exact hv
    | fbits x => simp only [exV, RV, VR] at hv ⊢; exact hv
    | cpx k x y => simp only [exV, RV, VR] at hv ⊢; exact hv
    | nilsl => simp only [exV, RV, VR] at hv ⊢; exact hv
theorem exVs_sound (h : HP B Tg w m L) (ks : List Nat) : ∀ (n : Nat) (xs : List AV) (vs : List Value), VRs B Tg w m L xs vs → RVs B Tg w (fun i => m (ks.getD i 0)) (xs.map (exV n ks L)) vs
  | _, [], _, h' => by simpa [RVs, VRs] using h'
  | n, x :: xs, _, h' => by
    simp only [RVs, List.map_cons, VRs] at h' ⊢
    obtain ⟨v, vs', rfl, h1, h2⟩ := h'
    exact ⟨v, vs', rfl, exV_sound h ks n x v h1, exVs_sound h ks n xs vs' h2⟩
end
mutual
theorem exV_owns (ks : List Nat) (L : Loc) : ∀ (k n : Nat) (x : AV), ∀ p ∈ owns k (exV n ks L x), p.1 < ks.length ∧ ∃ c, (L (ks.getD p.1 0)).2 = some c
  | 0, _, _, p, hp => by simp [owns] at hp
  | k + 1, 0, x, p, hp => by
    simp only [exV, pl] at hp
    split at hp
    · rename_i hpl; cases x <;> simp [plain] at hpl <;> simp [owns] at hp
    · simp [owns] at hp
  | k + 1, n + 1, x, p, hp => by
    cases x with
    | lsl kk g off len e =>
      simp only [exV] at hp
      split at hp
      · rename_i hg
        split at hp
        · rename_i cells hc
          split at hp
          · simp [owns] at hp; subst hp
            have hlt := List.idxOf_lt_length_of_mem hg.2.2
            refine ⟨hlt, cells, ?_⟩
            rw [List.getD_eq_getElem?_getD, List.getElem?_eq_getElem hlt]
            simpa using hc
          · simp [owns] at hp
        · simp [owns] at hp
      · simp [owns] at hp
    | agg cells => simp only [exV, owns] at hp; exact exVs_owns ks L k n cells p hp
    | tup vs => simp only [exV, owns] at hp; exact exVs_owns ks L k n vs p hp
    | loc k g off => simp [exV, owns] at hp
    | own k e len cells => simp [exV, owns] at hp
    | ref cells t => simp [exV, owns] at hp
    | sli e len cells t => simp [exV, owns] at hp
    | fn f caps => simp [exV, owns] at hp
    | undef => simp [exV, owns] at hp
    | skip => simp [exV, owns] at hp
    | bool b => simp [exV, owns] at hp
    | int k n => simp [exV, owns] at hp
    | flt k x => simp [exV, owns] at hp
    | fbits x => simp [exV, owns] at hp
    | cpx k x y => simp [exV, owns] at hp
    | nilsl => simp [exV, owns] at hp
theorem exVs_owns (ks : List Nat) (L : Loc) : ∀ (k n : Nat) (xs : List AV), ∀ p ∈ (xs.map (exV n ks L)).flatMap (owns k), p.1 < ks.length ∧ ∃ c, (L (ks.getD p.1 0)).2 = some c
  | _, _, [], p, hp => by simp at hp
  | k, n, x :: xs, p, hp => by
    simp only [List.map_cons, List.flatMap_cons, List.mem_append] at hp
    rcases hp with hp | hp
    · exact exV_owns ks L k n x p hp
    · exact exVs_owns ks L k n xs p hp
end

def resG (tmps : Array Value) : ResultVar → Sem Value
  | .tmp t => pure (tmps.getD t Go.undef)
  | .cell x t => do loadVar t (← asAddr (tmps.getD x Go.undef))
theorem results_eq (fn : Func) (tmps : Array Value) : results fn tmps = (do let vs ← fn.results.mapM (resG tmps); pure (if h : vs.size = 1 then vs[0] else .tuple vs)) := rfl
theorem resAs_sound (h : Rel B Tg N w0 m fr L a w) : ∀ (rs : List ResultVar) (xs : List AV), resAs P fr L rs = some xs →
    ∃ vs, (rs.mapM (resG a.tmps)).run P w = .ok vs w ∧ VRs B Tg w m L xs vs
  | [], xs, hr => by simp [resAs] at hr; subst hr; exact ⟨[], rfl, by simp [VRs]⟩
  | r :: rs, xs, hr => by
    simp only [resAs] at hr
    split at hr
    · rename_i y ys hy hys
      cases hr
      obtain ⟨vs, h1, h2⟩ := resAs_sound h rs ys hys
      cases r with
      | tmp t =>
        simp only [resA] at hy
        cases hy
        refine ⟨a.tmps.getD t Go.undef :: vs, ?_, by simp only [VRs]; exact ⟨_, _, rfl, h.tmps t, h2⟩⟩
        simp only [List.mapM_cons, resG, Sem.run_bind, Sem.run_pure, Result.andThen_ok, h1]
      | cell x T =>
        simp only [resA] at hy
        obtain ⟨b, off, u, hv, hl, hu⟩ := ldA_sound' (P := P) h.heap Ext.refl (h.tmps x) hy
        refine ⟨u :: vs, ?_, by simp only [VRs]; exact ⟨_, _, rfl, hu, h2⟩⟩
        have e : (resG a.tmps (.cell x T)).run P w = .ok u w := by
          simp only [resG, Sem.run_bind, hv, asAddr, Sem.run_pure, Result.andThen_ok, hl]
        simp only [List.mapM_cons, Sem.run_bind, e, Sem.run_pure, Result.andThen_ok, h1]
    · cases hr

theorem Does.of_awp (hG : ∀ f ∈ X.cs, Good X.P X.env f) {f : FuncId} {fn : Func} {code : Code} {args : List AV} {r : AV} (hf : X.P.funcs[f]? = some fn) (hb : fn.body = some code) (hn : (fn.name == "runtime.NumGoroutine") = false)
    (hN : fn.ntmps = X.N) (hlen : args.length ≤ X.N) (ks : List Nat) (hks : ks.Nodup) (h : awp X code (initF args) L0 (Ends X fn ks r)) : Does X.P f args r := by
  intro Tg w m cargs hargs
  have hcl := hargs.length
  simp only [Array.length_toList] at hcl
  unfold Invokes
  have hcall : (callFunc f cargs).run X.P w = .ok (.enter f cargs) w := by
    have hn' : ¬ fn.name = "runtime.NumGoroutine" := by simpa using hn
    simp [callFunc, hf, hn', hb]
  rw [hcall]
  refine calls_of_wp hf hb ?_
  have hrel : Rel w.heap.size Tg X.N w m (initF args) L0 { tmps := cargs ++ Array.replicate (fn.ntmps - cargs.size) Go.undef, defers := [] } w := by
    refine ⟨Below.refl _ _, Nat.le_refl _, fun k cells hc => by simp [L0] at hc, fun k k' c c' hc => by simp [L0] at hc, by simp; omega, rfl, fun t => ?_⟩
    simp only [initF, Array.getD_eq_getD_getElem?]
    by_cases ht : t < args.length
    · obtain ⟨v, hv, hr⟩ := hargs.get (List.getElem?_eq_getElem ht)
      rw [Array.getElem?_toList] at hv
      rw [Array.getElem?_append_left (by omega), hv]
      simp only [List.getD_eq_getElem?_getD, List.getElem?_eq_getElem ht, Option.getD_some]
      exact hr
    · rw [List.getD_eq_getElem?_getD, List.getElem?_eq_none (by omega)]
      rw [Array.getElem?_append_right (by omega), Array.getElem?_replicate]
      simp only [Option.getD_none, VR]
      split <;> rfl
  refine wp_mono (awp_sound hG code _ hrel h) fun e a' w' q => ?_
  have fin : ∀ m' fr' L', Rel w.heap.size Tg X.N w m' fr' L' a' w' → (retA X.P fr' L' fn.results.toList).map (exV 4 ks L') = some r → a'.defers = [] ∧ ∃ v, (results fn a'.tmps).run X.P w' = .ok v w' ∧ ∃ v', Ending.returned v = .returned v' ∧ Below w.heap.size w w' ∧ ∃ mr, RV w.heap.size Tg w' mr r v' ∧
      ∀ i j, i ∈ (owns 4 r).map (·.1) → j ∈ (owns 4 r).map (·.1) → (mr i).1 = (mr j).1 → i = j := by
    intro m' fr' L' hR hE
    have hdist : ∀ x : AV, exV 4 ks L' x = r → ∀ i j, i ∈ (owns 4 r).map (·.1) → j ∈ (owns 4 r).map (·.1) → (m' (ks.getD i 0)).1 = (m' (ks.getD j 0)).1 → i = j := by
      intro x hx i j hi hj e
      subst hx
      obtain ⟨p, hp, rfl⟩ := List.mem_map.1 hi
      obtain ⟨q, hq, rfl⟩ := List.mem_map.1 hj
      obtain ⟨hl1, c1, h1⟩ := exV_owns ks L' 4 4 x p hp
      obtain ⟨hl2, c2, h2⟩ := exV_owns ks L' 4 4 x q hq
      have := hR.inj _ _ _ _ h1 h2 e
      rw [List.getD_eq_getElem?_getD, List.getD_eq_getElem?_getD, List.getElem?_eq_getElem hl1, List.getElem?_eq_getElem hl2] at this
      simp only [Option.getD_some] at this
      have e1 := hks.idxOf_getElem p.1 hl1
      have e2 := hks.idxOf_getElem q.1 hl2
      rw [← e1, ← e2, this]
    cases hret : retA X.P fr' L' fn.results.toList with
    | none => simp [hret] at hE
    | some x =>
      simp [hret] at hE
      unfold retA at hret
      cases hres : resAs X.P fr' L' fn.results.toList with
      | none => simp [hres] at hret
      | some xs =>
        obtain ⟨vs, hrun, hvs⟩ := resAs_sound (P := X.P) hR _ xs hres
        have hlenvs := hvs.length
        have hrun' : (results fn a'.tmps).run X.P w' = .ok (if h : vs.toArray.size = 1 then vs.toArray[0] else .tuple vs.toArray) w' := by
          rw [results_eq, Array.mapM_eq_mapM_toList]
          simp only [Sem.run_bind, Sem.run_map, hrun, Result.andThen_ok, Sem.run_pure]
        refine ⟨hR.defers, _, hrun', _, rfl, hR.below, fun i => m' (ks.getD i 0), ?_, hdist x hE⟩
        subst hE
        refine exV_sound hR.heap ks 4 x _ ?_
        cases xs with
        | nil =>
          simp [hres] at hret; subst hret
          simp only [VRs] at hvs; subst hvs
          simp only [VR]; exact ⟨#[], rfl, by simp [VRs]⟩
        | cons y ys =>
          cases ys with
          | nil =>
            simp [hres] at hret; subst hret
            simp only [VRs] at hvs
            obtain ⟨v, vs', rfl, h1, rfl⟩ := hvs
            simpa using h1
          | cons z zs =>
            simp [hres] at hret; subst hret
            have : ¬ (vs.toArray.size = 1) := by simp at hlenvs ⊢; omega
            rw [dif_neg this]
            simp only [VR]; exact ⟨vs.toArray, rfl, hvs⟩
  have conv : ∀ fr' L', (match retA X.P fr' L' fn.results.toList with | some x => exV 4 ks L' x = r | none => False) → (retA X.P fr' L' fn.results.toList).map (exV 4 ks L') = some r := by
    intro fr' L' h
    split at h
    · rename_i x hx; rw [hx, Option.map_some, h]
    · exact h.elim
  cases e <;> simp only [Conc, bodyPost] at q ⊢
  · obtain ⟨m', fr', L', hR, hE⟩ := q
    exact fin m' fr' L' hR (conv _ _ hE)
  · obtain ⟨m', fr', L', hR, hE⟩ := q
    exact hE.elim
  · obtain ⟨m', fr', L', hR, hE⟩ := q
    exact fin m' fr' L' hR (conv _ _ hE)
end
end Go.Ax
