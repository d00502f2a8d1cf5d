/- What a function does, from its code. -/
import Derived.Test.YtagiajolklbbiaaBxX
namespace Go.Bx
open Go.Ax
open Go.RowKit (Below)

def initF (args : List AV) : Fr := fun t => args.getD t .skip
def resA (P : Program) (fr : Fr) (L : Loc) : ResultVar → Option AV
  | .tmp t => some (fr t)
  | .cell x T => ldA P L T (fr x)
def resAs (P : Program) (fr : Fr) (L : Loc) : List ResultVar → Option (List AV)
  | [] => some []
  | r :: rs => match resA P fr L r, resAs P fr L rs with
    | some x, some xs => some (x :: xs)
    | _, _ => none
def retA (P : Program) (fr : Fr) (L : Loc) (rs : List ResultVar) : Option AV :=
  match resAs P fr L rs with
  | some [x] => some x
  | some xs => some (.tup xs)
  | none => none
def idxN : List Nat → Nat → Option Nat
  | [], _ => none
  | x :: xs, k => match Nat.beq x k with
    | true => some 0
    | false => match idxN xs k with
      | some i => some (i + 1)
      | none => none
theorem idxN_spec : ∀ {ks : List Nat} {k i : Nat}, idxN ks k = some i → ks[i]? = some k
  | [], _, _, h => by cases h
  | x :: xs, k, i, h => by
    unfold idxN at h
    split at h
    · rename_i e; cases h; simp [Nat.eq_of_beq_eq_true e]
    · split at h
      · rename_i j hj; cases h; simpa using idxN_spec hj
      · cases h
/-- What leaves the function: slices of its own whose keys are listed go over to the caller. -/
def exV : Nat → List Nat → Loc → AV → AV
  | 0, _, _, x => pl x
  | n + 1, ks, L, x => match x with
    | .osl k => match L k with
      | .live (.tab r xs) => match idxN ks k with
        | some i => .own i r xs
        | none => .undef
      | _ => .undef
    | .loc .. | .own .. | .eloc .. | .eref .. => .undef
    | .agg cells => .agg (cells.map (exV n ks L))
    | .tup vs => .tup (vs.map (exV n ks L))
    | .fn f caps => .fn f (caps.map fun _ => .undef)
    | x => x
/-- 'x' says at least what 'y' says: a nil slice may be handed over as an empty one of one's own. -/
def leA : Nat → AV → AV → Prop
  | 0, x, y => x = y
  | n + 1, x, y => match y with
    | .own i r xs => match x with
      | .emp _ => xs = []
      | x => forceA x fun x => x = .own i r xs
    | .agg ys => match x with
      | .agg xs => leAs n xs ys
      | _ => False
    | .tup ys => match x with
      | .tup xs => leAs n xs ys
      | _ => False
    | y => forceA x fun x => x = y
where leAs (n : Nat) : List AV → List AV → Prop
  | [], [] => True
  | x :: xs, y :: ys => leA n x y ∧ leAs n xs ys
  | _, _ => False
/-- The claim that a function ends so. -/
def Ends (X : Cx) (fn : Func) (ks : List Nat) (r : AV) : Ex → Fr → Loc → Prop
  | .exit _, _, _ => False
  | _, fr, L => match retA X.P fr L fn.results.toList with
    | some x => leA 4 (exV 4 ks L x) r
    | none => False

section
variable {F : Nat → Prop} {N B : Nat} {pn : Option (Nat × Nat)} {Tg Tg' : AV → Value → Prop} {w0 w w' : World} {sh : Sh} {m m' mr : Mp} {L L' : Loc} {fr : Fr} {a : Act} {X : Cx} {P : Program}

theorem pl_RV {x : AV} {v : Value} (h : VR F Tg w m L x v) : RV B Tg w mr (pl x) v := by
  unfold pl; split
  · rename_i hp; cases x <;> simp [plain] at hp <;> (simp only [VR, RV] at h ⊢; try exact h)
  · simp [RV]
/-- The blocks that go over. -/
theorem idxN_get {ks : List Nat} {k i : Nat} (h : idxN ks k = some i) : ks.getD i 0 = k := by
  rw [List.getD_eq_getElem?_getD, idxN_spec h]; rfl
mutual
theorem exV_sound (h : HP F Tg w m L) (ks : List Nat) (hB : ∀ k b, k ∈ ks → L k = .live b → b.has → B ≤ (m k).1) : ∀ (n : Nat) (x : AV) (v : Value), VR F Tg w m L x v → RV B Tg w (fun i => m (ks.getD i 0)) (exV n ks L x) v
  | 0, x, v, hv => pl_RV hv
  | n + 1, x, v, hv => by
    cases x with
    | osl k =>
      simp only [exV]
      split
      · rename_i r xs hL
        split
        · rename_i i hi
          simp only [VR] at hv
          simp only [RV, idxN_get hi]
          rcases hv.2 _ _ hL with g | ⟨hne, cap, e, h1, h2⟩
          · exact .inl g
          · obtain ⟨h3, c, t, h4, h5, h6⟩ := h k _ hL hne
            exact .inr ⟨hne, hB k _ (List.mem_of_getElem? (idxN_spec hi)) hL hne, ⟨c, t, h4, h5, h6.rows⟩, cap, e, h1, h2⟩
        · simp [RV]
      · simp [RV]
    | loc k off => simp [exV, RV]
    | eloc k i j => simp [exV, RV]
    | eref r xs i j => simp [exV, RV]
    | own i r xs => simp [exV, RV]
    | ref cells t => simp only [exV, RV, VR] at hv ⊢; exact hv.1
    | sli r xs t => simp only [exV, RV, VR] at hv ⊢; exact hv.1
    | agg cells =>
      simp only [exV, RV, VR] at hv ⊢
      obtain ⟨cs, e, hc⟩ := hv
      exact ⟨cs, e, exVs_sound h ks hB n _ _ hc⟩
    | tup vs =>
      simp only [exV, RV, VR] at hv ⊢
      obtain ⟨cs, e, hc⟩ := hv
      exact ⟨cs, e, exVs_sound h ks hB n _ _ hc⟩
    | fn f caps =>
      simp only [exV, RV, VR] at hv ⊢
      obtain ⟨cs, e, hc⟩ := hv
      refine ⟨cs, e, ?_⟩
      clear e
      generalize cs.toList = l at hc
      induction caps generalizing l with
      | nil => simp only [VRs, RVs, List.map_nil] at hc ⊢; exact hc
      | cons x xs ih =>
        simp only [VRs, RVs, List.map_cons] at hc ⊢
        obtain ⟨v, vs, rfl, h1, h2⟩ := hc
        exact ⟨v, vs, rfl, by simp [RV], ih vs h2⟩
    | undef => simp [exV, RV]
    | skip => simp only [exV, RV, VR] at hv ⊢; exact hv
    | bool b => simp only [exV, RV, VR] at hv ⊢; exact hv
    | int k n => simp only [exV, RV, VR] at hv ⊢; exact hv
    | flt k x => simp only [exV, RV, VR] at hv ⊢; exact hv
    | fbits x => simp only [exV, RV, VR] at hv ⊢; exact hv
    | cpx k x y => simp only [exV, RV, VR] at hv ⊢; exact hv
    | nil => simp only [exV, RV, VR] at hv ⊢; exact hv
    | emp r => simp only [exV, RV, VR] at hv ⊢; exact hv
theorem exVs_sound (h : HP F Tg w m L) (ks : List Nat) (hB : ∀ k b, k ∈ ks → L k = .live b → b.has → B ≤ (m k).1) : ∀ (n : Nat) (xs : List AV) (vs : List Value), VRs F Tg w m L xs vs → RVs B Tg w (fun i => m (ks.getD i 0)) (xs.map (exV n ks L)) vs
  | _, [], _, h' => by simpa [RVs, VRs] using h'
  | n, x :: xs, _, h' => by
    simp only [RVs, List.map_cons, VRs] at h' ⊢
    obtain ⟨v, vs', rfl, h1, h2⟩ := h'
    exact ⟨v, vs', rfl, exV_sound h ks hB n x v h1, exVs_sound h ks hB n xs vs' h2⟩
end
mutual
theorem exV_owns (ks : List Nat) (L : Loc) : ∀ (k n : Nat) (x : AV), ∀ p ∈ owns k (exV n ks L x), p.1 < ks.length ∧ L (ks.getD p.1 0) = .live p.2
  | 0, _, _, p, hp => by simp [owns] at hp
  | k + 1, 0, x, p, hp => by
    simp only [exV, pl] at hp
    split at hp
    · rename_i hpl; cases x <;> simp [plain] at hpl <;> simp [owns] at hp
    · simp [owns] at hp
  | k + 1, n + 1, x, p, hp => by
    cases x with
    | osl kk =>
      simp only [exV] at hp
      split at hp
      · rename_i r xs hL
        split at hp
        · rename_i i hi
          simp [owns] at hp; subst hp
          exact ⟨(List.getElem?_eq_some_iff.1 (idxN_spec hi)).1, by rw [idxN_get hi]; exact hL⟩
        · simp [owns] at hp
      · simp [owns] at hp
    | agg cells => simp only [exV, owns] at hp; exact exVs_owns ks L k n cells p hp
    | tup vs => simp only [exV, owns] at hp; exact exVs_owns ks L k n vs p hp
    | loc k off => simp [exV, owns] at hp
    | eloc k i j => simp [exV, owns] at hp
    | eref r xs i j => simp [exV, owns] at hp
    | own i r xs => simp [exV, owns] at hp
    | ref cells t => simp [exV, owns] at hp
    | sli r xs t => simp [exV, owns] at hp
    | fn f caps => simp [exV, owns] at hp
    | undef => simp [exV, owns] at hp
    | skip => simp [exV, owns] at hp
    | bool b => simp [exV, owns] at hp
    | int k n => simp [exV, owns] at hp
    | flt k x => simp [exV, owns] at hp
    | fbits x => simp [exV, owns] at hp
    | cpx k x y => simp [exV, owns] at hp
    | nil => simp [exV, owns] at hp
    | emp r => simp [exV, owns] at hp
theorem exVs_owns (ks : List Nat) (L : Loc) : ∀ (k n : Nat) (xs : List AV), ∀ p ∈ (xs.map (exV n ks L)).flatMap (owns k), p.1 < ks.length ∧ L (ks.getD p.1 0) = .live p.2
  | _, _, [], p, hp => by simp at hp
  | k, n, x :: xs, p, hp => by
    simp only [List.map_cons, List.flatMap_cons, List.mem_append] at hp
    rcases hp with hp | hp
    · exact exV_owns ks L k n x p hp
    · exact exVs_owns ks L k n xs p hp
end
mutual
theorem leA_RV : ∀ (n : Nat) {x y : AV} {v : Value}, leA n x y → RV B Tg w mr x v → RV B Tg w mr y v
  | 0, x, y, v, h, hv => by simp only [leA] at h; subst h; exact hv
  | n + 1, x, y, v, h, hv => by
    unfold leA at h
    split at h
    · split at h
      · subst h; simp only [RV] at hv ⊢; exact .inl ⟨trivial, hv⟩
      · rw [forceA_eq] at h; subst h; exact hv
    · split at h
      · simp only [RV] at hv ⊢
        obtain ⟨cs, e, hc⟩ := hv
        exact ⟨cs, e, leAs_RVs n h hc⟩
      · exact h.elim
    · split at h
      · simp only [RV] at hv ⊢
        obtain ⟨cs, e, hc⟩ := hv
        exact ⟨cs, e, leAs_RVs n h hc⟩
      · exact h.elim
    · rw [forceA_eq] at h; subst h; exact hv
theorem leAs_RVs : ∀ (n : Nat) {xs ys : List AV} {vs : List Value}, leA.leAs n xs ys → RVs B Tg w mr xs vs → RVs B Tg w mr ys vs
  | n, [], [], vs, _, hv => hv
  | n, x :: xs, y :: ys, vs, h, hv => by
    simp only [leA.leAs] at h
    simp only [RVs] at hv ⊢
    obtain ⟨v, vs', rfl, h1, h2⟩ := hv
    exact ⟨v, vs', rfl, leA_RV n h.1 h1, leAs_RVs n h.2 h2⟩
  | n, [], y :: ys, vs, h, _ => by simp [leA.leAs] at h
  | n, x :: xs, [], vs, h, _ => by simp [leA.leAs] at h
end
mutual
theorem leA_owns : ∀ (k n : Nat) {x y : AV}, leA n x y → ∀ p ∈ owns k y, p.2.has → p ∈ owns k x
  | 0, _, _, _, _, p, hp, _ => by simp [owns] at hp
  | k + 1, 0, x, y, h, p, hp, _ => by simp only [leA] at h; subst h; exact hp
  | k + 1, n + 1, x, y, h, p, hp, hh => by
    unfold leA at h
    split at h
    · split at h
      · subst h; simp only [owns, List.mem_singleton] at hp; subst hp; exact absurd rfl hh
      · rw [forceA_eq] at h; subst h; exact hp
    · split at h
      · simp only [owns] at hp ⊢; exact leAs_owns k n h p hp hh
      · exact h.elim
    · split at h
      · simp only [owns] at hp ⊢; exact leAs_owns k n h p hp hh
      · exact h.elim
    · rw [forceA_eq] at h; subst h; exact hp
theorem leAs_owns : ∀ (k n : Nat) {xs ys : List AV}, leA.leAs n xs ys → ∀ p ∈ ys.flatMap (owns k), p.2.has → p ∈ xs.flatMap (owns k)
  | k, n, [], [], _, p, hp, _ => hp
  | k, n, x :: xs, y :: ys, h, p, hp, hh => by
    simp only [leA.leAs] at h
    simp only [List.flatMap_cons, List.mem_append] at hp ⊢
    rcases hp with hp | hp
    · exact .inl (leA_owns k n h.1 p hp hh)
    · exact .inr (leAs_owns k n h.2 p hp hh)
  | k, n, [], y :: ys, h, _, _, _ => by simp [leA.leAs] at h
  | k, n, x :: xs, [], h, _, _, _ => by simp [leA.leAs] at h
end

def resG (tmps : Array Value) : ResultVar → Sem Value
  | .tmp t => pure (tmps.getD t Go.undef)
  | .cell x t => do loadVar t (← asAddr (tmps.getD x Go.undef))
theorem results_eq (fn : Func) (tmps : Array Value) : results fn tmps = (do let vs ← fn.results.mapM (resG tmps); pure (if h : vs.size = 1 then vs[0] else .tuple vs)) := rfl
theorem resAs_sound (h : Rel F Tg pn N w0 sh m fr L a w) : ∀ (rs : List ResultVar) (xs : List AV), resAs P fr L rs = some xs →
    ∃ vs, (rs.mapM (resG a.tmps)).run P w = .ok vs w ∧ VRs F Tg w m L xs vs
  | [], xs, hr => by simp [resAs] at hr; subst hr; exact ⟨[], rfl, by simp [VRs]⟩
  | r :: rs, xs, hr => by
    simp only [resAs] at hr
    split at hr
    · rename_i y ys hy hys
      cases hr
      obtain ⟨vs, h1, h2⟩ := resAs_sound h rs ys hys
      cases r with
      | tmp t =>
        simp only [resA] at hy
        cases hy
        refine ⟨a.tmps.getD t Go.undef :: vs, ?_, by simp only [VRs]; exact ⟨_, _, rfl, h.tmps t, h2⟩⟩
        simp only [List.mapM_cons, resG, Sem.run_bind, Sem.run_pure, Result.andThen_ok, h1]
      | cell x T =>
        simp only [resA] at hy
        obtain ⟨b, off, u, hv, hl, hu⟩ := ldA_sound' (P := P) h.heap Ext.refl (h.tmps x) hy
        refine ⟨u :: vs, ?_, by simp only [VRs]; exact ⟨_, _, rfl, hu, h2⟩⟩
        have e : (resG a.tmps (.cell x T)).run P w = .ok u w := by
          simp only [resG, Sem.run_bind, hv, asAddr, Sem.run_pure, Result.andThen_ok, hl]
        simp only [List.mapM_cons, Sem.run_bind, e, Sem.run_pure, Result.andThen_ok, h1]
    · cases hr
theorem retA_sound (h : Rel F Tg pn N w0 sh m fr L a w) {fn : Func} {x : AV} (hret : retA P fr L fn.results.toList = some x) : ∃ v, (results fn a.tmps).run P w = .ok v w ∧ VR F Tg w m L x v := by
  unfold retA at hret
  cases hres : resAs P fr L fn.results.toList with
  | none => simp [hres] at hret
  | some xs =>
    obtain ⟨vs, hrun, hvs⟩ := resAs_sound (P := P) h _ xs hres
    have hlenvs := hvs.length
    have hrun' : (results fn a.tmps).run P w = .ok (if h : vs.toArray.size = 1 then vs.toArray[0] else .tuple vs.toArray) w := by
      rw [results_eq, Array.mapM_eq_mapM_toList]
      simp only [Sem.run_bind, Sem.run_map, hrun, Result.andThen_ok, Sem.run_pure]
    refine ⟨_, hrun', ?_⟩
    cases xs with
    | nil =>
      simp [hres] at hret; subst hret
      simp only [VRs] at hvs; subst hvs
      simp only [VR]; exact ⟨#[], rfl, by simp [VRs]⟩
    | cons y ys =>
      cases ys with
      | nil =>
        simp [hres] at hret; subst hret
        simp only [VRs] at hvs
        obtain ⟨v, vs', rfl, h1, rfl⟩ := hvs
        simpa using h1
      | cons z zs =>
        simp [hres] at hret; subst hret
        have : ¬ (vs.toArray.size = 1) := by simp at hlenvs ⊢; omega
        rw [dif_neg this]
        simp only [VR]; exact ⟨vs.toArray, rfl, hvs⟩

/-- The run of a function with a body, from whatever state it starts in. -/
theorem run_body {f : FuncId} {fn : Func} {code : Code} {args : List AV} {cargs : Array Value} {K : Ex → Fr → Loc → Prop} {R : Value → World → Prop} (hf : X.P.funcs[f]? = some fn) (hb : fn.body = some code) (hn : (fn.name == "runtime.NumGoroutine") = false)
    (hN : fn.ntmps = X.N) (hlen : args.length ≤ X.N) (hargs : VRs F Tg w m L args cargs.toList) (hsub : ∀ b, F b → b < w.heap.size) (hheap : HP F Tg w m L) (hinj : ∀ k k' c c', L k = .live c → c.has → L k' = .live c' → c'.has → (m k).1 = (m k').1 → k = k' ∨ noSh k k' ∨ noSh k' k)
    (hpin : ∀ p b, pn = some p → L LK = .live b → m LK = p) (h : awp X code (initF args) L K)
    (hfin : ∀ e m' fr' L' a' w', e = Ex.normal ∨ e = Ex.ret → Rel F Tg pn X.N w noSh m' fr' L' a' w' → K e fr' L' → ∃ v, (results fn a'.tmps).run X.P w' = .ok v w' ∧ R v w') (hex : ∀ id fr L, ¬ K (.exit id) fr L) : Invokes X.P f cargs w R := by
  have hcl := hargs.length
  simp only [Array.length_toList] at hcl
  unfold Invokes
  have hcall : (callFunc f cargs).run X.P w = .ok (.enter f cargs) w := by
    have hn' : ¬ fn.name = "runtime.NumGoroutine" := by simpa using hn
    simp [callFunc, hf, hn', hb]
  rw [hcall]
  refine calls_of_wp hf hb ?_
  have hrel : Rel F Tg pn X.N w noSh m (initF args) L { tmps := cargs ++ Array.replicate (fn.ntmps - cargs.size) Go.undef, defers := [] } w := by
    refine ⟨Kept.refl, hsub, hheap, hinj, hpin, by simp; omega, rfl, fun t => ?_⟩
    simp only [initF, Array.getD_eq_getD_getElem?]
    by_cases ht : t < args.length
    · obtain ⟨v, hv, hr⟩ := hargs.get (List.getElem?_eq_getElem ht)
      rw [Array.getElem?_toList] at hv
      rw [Array.getElem?_append_left (by omega), hv]
      simp only [List.getD_eq_getElem?_getD, List.getElem?_eq_getElem ht, Option.getD_some]
      exact hr
    · rw [List.getD_eq_getElem?_getD, List.getElem?_eq_none (by omega)]
      rw [Array.getElem?_append_right (by omega), Array.getElem?_replicate]
      simp only [Option.getD_none, VR]
      split <;> rfl
  refine wp_mono (awp_sound code _ hrel h) fun e a' w' q => ?_
  cases e <;> simp only [Conc, bodyPost] at q ⊢
  · obtain ⟨m', fr', L', hR, hE⟩ := q
    obtain ⟨v, h1, h2⟩ := hfin _ m' fr' L' a' w' (.inl rfl) hR hE
    exact ⟨hR.defers, v, h1, v, rfl, h2⟩
  · obtain ⟨m', fr', L', hR, hE⟩ := q
    exact absurd hE (hex _ _ _)
  · obtain ⟨m', fr', L', hR, hE⟩ := q
    obtain ⟨v, h1, h2⟩ := hfin _ m' fr' L' a' w' (.inr rfl) hR hE
    exact ⟨hR.defers, v, h1, v, rfl, h2⟩

theorem Does.of_awp {f : FuncId} {fn : Func} {code : Code} {args : List AV} {r : AV} (hf : X.P.funcs[f]? = some fn) (hb : fn.body = some code) (hn : (fn.name == "runtime.NumGoroutine") = false)
    (hN : fn.ntmps = X.N) (hlen : args.length ≤ X.N) (ks : List Nat) (hks : nodupN ks = true) (h : awp X code (initF args) L0 (Ends X fn ks r)) : Does X.P f args r := by
  intro Tg w m cargs hargs
  refine run_body (pn := none) (K := Ends X fn ks r) hf hb hn hN hlen hargs (fun b hb => hb) (fun k b hk => by cases hk) (fun k k' c c' hk => by cases hk) (fun _ _ e => by cases e) h ?_ (fun _ _ _ h => h)
  intro e m' fr' L' a' w' he hR hE
  have hE : ∃ x, retA X.P fr' L' fn.results.toList = some x ∧ leA 4 (exV 4 ks L' x) r := by
    rcases he with rfl | rfl <;> (simp only [Ends] at hE; split at hE; (rename_i x hx; exact ⟨x, hx, hE⟩); exact hE.elim)
  obtain ⟨x, hx, hle⟩ := hE
  obtain ⟨v, hv, hr⟩ := retA_sound hR hx
  refine ⟨v, hv, hR.kept.below, fun i => m' (ks.getD i 0), leA_RV 4 hle (exV_sound hR.heap ks (fun k b _ hb hh => by have := (hR.heap k b hb hh).1; omega) 4 x v hr), fun p q hp hph hq hqh e => ?_⟩
  have hp' := leA_owns 4 4 hle p hp hph
  have hq' := leA_owns 4 4 hle q hq hqh
  obtain ⟨hl1, h1⟩ := exV_owns ks L' 4 4 x p hp'
  obtain ⟨hl2, h2⟩ := exV_owns ks L' 4 4 x q hq'
  have := hR.inj _ _ _ _ h1 hph h2 hqh e
  rcases this with this | this | this
  · have hnd := nodupN_spec hks
    rw [List.getD_eq_getElem?_getD, List.getD_eq_getElem?_getD, List.getElem?_eq_getElem hl1, List.getElem?_eq_getElem hl2] at this
    simp only [Option.getD_some] at this
    have e1 := hnd.idxOf_getElem p.1 hl1
    have e2 := hnd.idxOf_getElem q.1 hl2
    rw [← e1, ← e2, this]
  · exact this.elim
  · exact this.elim

/-- The claim that a function ends so that writes into what it was lent. -/
def EndsM (X : Cx) (fn : Func) (y : AV) (r : RK) (ys : List r.T) : Ex → Fr → Loc → Prop
  | .exit _, _, _ => False
  | _, fr, L => match retA X.P fr L fn.results.toList with
    | some x => x = y ∧ L LK = .live (.tab r ys)
    | none => False
theorem DoesM.of_awp {f : FuncId} {fn : Func} {code : Code} {args : List AV} {r : RK} {xs ys : List r.T} {y : AV} (hf : X.P.funcs[f]? = some fn) (hb : fn.body = some code) (hn : (fn.name == "runtime.NumGoroutine") = false)
    (hN : fn.ntmps = X.N) (hlen : args.length ≤ X.N) (hy : plain y = true) (hy' : y ≠ .undef) (hl : ys.length = xs.length) (h : awp X code (initF args) (upd L0 LK (.live (.tab r xs))) (EndsM X fn y r ys)) : DoesM X.P f args r xs y ys := by
  intro Tg w m cargs c t hblk hargs
  have hempty : xs ≠ [] ↔ ys ≠ [] := by rw [← List.length_pos_iff, ← List.length_pos_iff, hl]
  have hone : ∀ k b, upd L0 LK (.live (.tab r xs)) k = .live b → k = LK ∧ b = .tab r xs := fun k b hk => by
    by_cases e : k = LK
    · subst e; rw [upd_same] at hk; cases hk; exact ⟨rfl, rfl⟩
    · rw [upd_ne _ _ e] at hk; cases hk
  refine run_body (pn := some (m LK)) (K := EndsM X fn y r ys) hf hb hn hN hlen hargs (fun b hb => hb.1) (fun k b hk hh => ?_) (fun k k' c c' hk _ hk' _ _ => .inl ((hone k c hk).1.trans (hone k' c' hk').1.symm)) (fun p b e _ => by cases e; rfl) h ?_ (fun _ _ _ h => h)
  · obtain ⟨rfl, rfl⟩ := hone k b hk
    obtain ⟨h1, h2, h3⟩ := hblk hh
    exact ⟨fun hF => hF.2 hh rfl, c, t, h1, h2, h3.pre⟩
  · intro e m' fr' L' a' w' he hR hE
    have hE : ∃ x, retA X.P fr' L' fn.results.toList = some x ∧ x = y ∧ L' LK = .live (.tab r ys) := by
      rcases he with rfl | rfl <;> (simp only [EndsM] at hE; split at hE; (rename_i x hx; exact ⟨x, hx, hE⟩); exact hE.elim)
    obtain ⟨x, hx, rfl, hLK⟩ := hE
    obtain ⟨v, hv, hr⟩ := retA_sound hR hx
    refine ⟨v, hv, hR.kept, hr.sv hy hy', fun hne => ?_⟩
    obtain ⟨_, c', t', h1, h2, h3⟩ := hR.heap LK _ hLK (hempty.1 hne)
    have hp := hR.pin _ _ rfl hLK
    rw [hp] at h1 h2
    exact ⟨c', t', h1, by rw [h2, (hblk hne).2.1], h3.rows⟩

/-- The claim that a function ends so that writes through a pointer that it was lent. -/
def EndsP (X : Cx) (fn : Func) (y : AV) (cells : List AV) : Ex → Fr → Loc → Prop
  | .exit _, _, _ => False
  | _, fr, L => match retA X.P fr L fn.results.toList with
    | some x => x = y ∧ L LK = .live (.av cells)
    | none => False
theorem DoesP.of_awp {f : FuncId} {fn : Func} {code : Code} {args cells cells' : List AV} {y : AV} (hf : X.P.funcs[f]? = some fn) (hb : fn.body = some code) (hn : (fn.name == "runtime.NumGoroutine") = false)
    (hN : fn.ntmps = X.N) (hlen : args.length ≤ X.N) (hy : plain y = true) (hy' : y ≠ .undef) (hout : cells'.all outA = true) (h : awp X code (initF args) (upd L0 LK (.live (.av cells))) (EndsP X fn y cells')) : DoesP X.P f args cells y cells' := by
  intro Tg w m cargs c t hblk hsz hpre hargs
  have hone : ∀ k b, upd L0 LK (.live (.av cells)) k = .live b → k = LK ∧ b = .av cells := fun k b hk => by
    by_cases e : k = LK
    · subst e; rw [upd_same] at hk; cases hk; exact ⟨rfl, rfl⟩
    · rw [upd_ne _ _ e] at hk; cases hk
  refine run_body (pn := some (m LK)) (K := EndsP X fn y cells') hf hb hn hN hlen hargs (fun b hb => hb.1) (fun k b hk hh => ?_) (fun k k' c c' hk _ hk' _ _ => .inl ((hone k c hk).1.trans (hone k' c' hk').1.symm)) (fun p b e _ => by cases e; rfl) h ?_ (fun _ _ _ h => h)
  · obtain ⟨rfl, rfl⟩ := hone k b hk
    exact ⟨fun hF => hF.2 rfl, c, t, hblk, hsz, hpre⟩
  · intro e m' fr' L' a' w' he hR hE
    have hE : ∃ x, retA X.P fr' L' fn.results.toList = some x ∧ x = y ∧ L' LK = .live (.av cells') := by
      rcases he with rfl | rfl <;> (simp only [EndsP] at hE; split at hE; (rename_i x hx; exact ⟨x, hx, hE⟩); exact hE.elim)
    obtain ⟨x, hx, rfl, hLK⟩ := hE
    obtain ⟨v, hv, hr⟩ := retA_sound hR hx
    refine ⟨v, hv, hR.kept, hr.sv hy hy', ?_⟩
    obtain ⟨_, c', t', h1, h2, h3⟩ := hR.heap LK _ hLK trivial
    have hp := hR.pin _ _ rfl hLK
    rw [hp] at h1 h2
    refine ⟨c', t', h1, by rw [h2, hsz], fun i x hi => ?_⟩
    obtain ⟨u, hu, hru⟩ := h3.get hi
    exact ⟨u, hu, out_RV (List.all_eq_true.1 hout x (List.mem_of_getElem? hi)) hru⟩
/-- The claim that a function ends so that writes through a pointer that it was lent, and hands back slices of its own. -/
def EndsQ (X : Cx) (fn : Func) (ks : List Nat) (r : AV) (cells : List AV) : Ex → Fr → Loc → Prop
  | .exit _, _, _ => False
  | _, fr, L => match retA X.P fr L fn.results.toList with
    | some x => leA 4 (exV 4 ks L x) r ∧ L LK = .live (.av cells)
    | none => False
theorem DoesQ.of_awp {f : FuncId} {fn : Func} {code : Code} {args cells cells' : List AV} {r : AV} (hf : X.P.funcs[f]? = some fn) (hb : fn.body = some code) (hn : (fn.name == "runtime.NumGoroutine") = false)
    (hN : fn.ntmps = X.N) (hlen : args.length ≤ X.N) (ks : List Nat) (hks : nodupN ks = true) (hkL : ks.any (Nat.beq LK) = false) (hout : cells'.all outA = true) (h : awp X code (initF args) (upd L0 LK (.live (.av cells))) (EndsQ X fn ks r cells')) : DoesQ X.P f args cells r cells' := by
  intro Tg w m cargs c t hblk hsz hpre hargs
  have hone : ∀ k b, upd L0 LK (.live (.av cells)) k = .live b → k = LK ∧ b = .av cells := fun k b hk => by
    by_cases e : k = LK
    · subst e; rw [upd_same] at hk; cases hk; exact ⟨rfl, rfl⟩
    · rw [upd_ne _ _ e] at hk; cases hk
  refine run_body (pn := some (m LK)) (K := EndsQ X fn ks r cells') hf hb hn hN hlen hargs (fun b hb => hb.1) (fun k b hk hh => ?_) (fun k k' c c' hk _ hk' _ _ => .inl ((hone k c hk).1.trans (hone k' c' hk').1.symm)) (fun p b e _ => by cases e; rfl) h ?_ (fun _ _ _ h => h)
  · obtain ⟨rfl, rfl⟩ := hone k b hk
    exact ⟨fun hF => hF.2 rfl, c, t, hblk, hsz, hpre⟩
  · intro e m' fr' L' a' w' he hR hE
    have hE : ∃ x, retA X.P fr' L' fn.results.toList = some x ∧ leA 4 (exV 4 ks L' x) r ∧ L' LK = .live (.av cells') := by
      rcases he with rfl | rfl <;> (simp only [EndsQ] at hE; split at hE; (rename_i x hx; exact ⟨x, hx, hE⟩); exact hE.elim)
    obtain ⟨x, hx, hle, hLK⟩ := hE
    obtain ⟨v, hv, hr⟩ := retA_sound hR hx
    have hp := hR.pin _ _ rfl hLK
    refine ⟨v, hv, hR.kept, ?_, fun i => m' (ks.getD i 0), leA_RV 4 hle (exV_sound hR.heap ks (fun k b hk hb hh => ?_) 4 x v hr), fun p q hp hph hq hqh e => ?_⟩
    · obtain ⟨_, c', t', h1, h2, h3⟩ := hR.heap LK _ hLK trivial
      rw [hp] at h1 h2
      refine ⟨c', t', h1, by rw [h2, hsz], fun i x hi => ?_⟩
      obtain ⟨u, hu, hru⟩ := h3.get hi
      exact ⟨u, hu, out_RV (List.all_eq_true.1 hout x (List.mem_of_getElem? hi)) hru⟩
    · have h1 := (hR.heap k b hb hh).1
      have h2 : (m' k).1 ≠ (m LK).1 := fun e => by
        rw [← hp] at e
        rcases hR.inj k LK _ _ hb hh hLK trivial e with e' | e' | e'
        · subst e'
          rw [List.any_eq_false] at hkL
          exact hkL _ hk (Nat.beq_refl _)
        · exact e'
        · exact e'
      rcases Nat.lt_or_ge (m' k).1 w.heap.size with g | g
      · exact absurd ⟨g, h2⟩ h1
      · exact g
    · have hp' := leA_owns 4 4 hle p hp hph
      have hq' := leA_owns 4 4 hle q hq hqh
      obtain ⟨hl1, h1⟩ := exV_owns ks L' 4 4 x p hp'
      obtain ⟨hl2, h2⟩ := exV_owns ks L' 4 4 x q hq'
      have := hR.inj _ _ _ _ h1 hph h2 hqh e
      rcases this with this | this | this
      · have hnd := nodupN_spec hks
        rw [List.getD_eq_getElem?_getD, List.getD_eq_getElem?_getD, List.getElem?_eq_getElem hl1, List.getElem?_eq_getElem hl2] at this
        simp only [Option.getD_some] at this
        have e1 := hnd.idxOf_getElem p.1 hl1
        have e2 := hnd.idxOf_getElem q.1 hl2
        rw [← e1, ← e2, this]
      · exact this.elim
      · exact this.elim
/-- The claim that a function ends so that hands back a pointer to a new struct. -/
def EndsN (X : Cx) (fn : Func) (cells : List AV) : Ex → Fr → Loc → Prop
  | .exit _, _, _ => False
  | _, fr, L => match retA X.P fr L fn.results.toList with
    | some (.loc k 0) => L k = .live (.av cells)
    | _ => False
theorem DoesN.of_awp {f : FuncId} {fn : Func} {code : Code} {args cells : List AV} (hf : X.P.funcs[f]? = some fn) (hb : fn.body = some code) (hn : (fn.name == "runtime.NumGoroutine") = false)
    (hN : fn.ntmps = X.N) (hlen : args.length ≤ X.N) (hout : cells.all outA = true) (h : awp X code (initF args) L0 (EndsN X fn cells)) : DoesN X.P f args cells := by
  intro Tg w m cargs hargs
  refine run_body (pn := none) (K := EndsN X fn cells) hf hb hn hN hlen hargs (fun b hb => hb) (fun k b hk => by cases hk) (fun k k' c c' hk => by cases hk) (fun _ _ e => by cases e) h ?_ (fun _ _ _ h => h)
  intro e m' fr' L' a' w' he hR hE
  have hE : ∃ k, retA X.P fr' L' fn.results.toList = some (.loc k 0) ∧ L' k = .live (.av cells) := by
    rcases he with rfl | rfl <;> (simp only [EndsN] at hE; split at hE; (rename_i k hx; exact ⟨k, hx, hE⟩); exact hE.elim)
  obtain ⟨k, hx, hLk⟩ := hE
  obtain ⟨v, hv, hr⟩ := retA_sound hR hx
  simp only [VR] at hr
  obtain ⟨hnF, c, t, h1, h2, h3⟩ := hR.heap k _ hLk trivial
  refine ⟨v, hv, hR.kept.below, (m' k).1, c, t, by simpa using hnF, hr.2 _ hLk, h1, fun i x hi => ?_⟩
  obtain ⟨u, hu, hru⟩ := h3.get hi
  exact ⟨u, hu, out_RV (List.all_eq_true.1 hout x (List.mem_of_getElem? hi)) hru⟩
end
end Go.Bx
