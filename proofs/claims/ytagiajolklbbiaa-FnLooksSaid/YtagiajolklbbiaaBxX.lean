/- The executor: regions; code; loops. -/
import Derived.Test.YtagiajolklbbiaaBxE
namespace Go.Bx
open Go.Ax
open Go.RowKit (Below)

section
variable {X : Cx} {ops : Array Oper} {p : Nat}
variable {F : Nat → Prop} {Tg : AV → Value → Prop} {pn : Option (Nat × Nat)} {w0 : World} {Q : Exit → Act → World → Prop} {K : Fr → Loc → Prop}

theorem ready_nil_all {n : Nat} (hp : pairOk n ops = true) {listed : Array Bool} (hsz : listed.size = ops.size) (hr : Region.ready .any ops listed = []) : ∀ j, j < ops.size → listed.getD j false = true := by
  intro j
  induction j using Nat.strongRecOn with
  | _ j ih =>
    intro hj
    cases hl : listed.getD j false with
    | true => rfl
    | false =>
      exfalso
      have ho : ops[j]? = some ops[j] := Array.getElem?_eq_getElem (by omega)
      have : j ∈ Region.ready .any ops listed := mem_ready.2 ⟨by rw [← hl, Array.getD_eq_getD_getElem?, Array.getD_eq_getD_getElem?, Array.getElem?_eq_getElem (by omega)]; rfl, _, ho, fun e he hb => by
        have hlt := pairOk_edge hp ho e he hb
        exact ih _ hlt (by omega)⟩
      rw [hr] at this; cases this
theorem getD_flip {listed : Array Bool} {j : Nat} (hj : j < listed.size) (h : listed.getD j true = false) : listed.getD j false = false := by
  rw [Array.getD_eq_getD_getElem?, Array.getElem?_eq_getElem hj] at h ⊢
  exact h
/-- The operations that wait for all that stand ahead of them. -/
theorem suf_sound {n : Nat} (hp : pairOk n ops = true) (hQ : ∀ m fr L a w, Rel F Tg pn X.N w0 noSh m fr L a w → K fr L → Q .normal a w) :
    ∀ (l q fuel : Nat) (listed : Array Bool) {m : Mp} {fr : Fr} {L : Loc} {a : Act} {w : World}, q + l = ops.size → listed.size = ops.size → (∀ j, j < ops.size → listed.getD j false = decide (j < q)) → n ≤ q → l ≤ fuel →
      Rel F Tg pn X.N w0 noSh m fr L a w → awpOps X ops (ops.toList.drop q) fr L K → wpAny X.P .any ops Q fuel listed a w
  | 0, q, fuel, listed, m, fr, L, a, w, hq, hsz, hl, hn, hf, h, hk => by
    have hd : ops.toList.drop q = [] := by rw [List.drop_eq_nil_iff]; simp; omega
    rw [hd] at hk
    have hr : Region.ready .any ops listed = [] := by
      refine List.eq_nil_iff_forall_not_mem.2 fun j hj => ?_
      obtain ⟨h0, o, ho, _⟩ := mem_ready.1 hj
      have hjn : j < ops.size := (Array.getElem?_eq_some_iff.1 ho).1
      have h1 := hl j hjn
      rw [getD_flip (by omega) h0] at h1
      have : j < q := by omega
      simp [this] at h1
    have hq' := hQ _ _ _ _ _ h hk
    cases fuel with
    | zero => exact ⟨hr, hq'⟩
    | succ fuel => exact ⟨fun _ => hq', fun i hi => by rw [hr] at hi; cases hi⟩
  | l + 1, q, fuel, listed, m, fr, L, a, w, hq, hsz, hl, hn, hf, h, hk => by
    cases fuel with
    | zero => omega
    | succ fuel =>
    have hqs : q < ops.size := by omega
    have hoq : ops[q]? = some ops[q] := Array.getElem?_eq_getElem hqs
    have hd : ops.toList.drop q = ops[q] :: ops.toList.drop (q + 1) := by
      rw [List.drop_eq_getElem_cons (by simpa using hqs)]; simp
    rw [hd] at hk
    have hlq : listed.getD q false = false := by rw [hl q hqs]; simp
    have hqr : q ∈ Region.ready .any ops listed := mem_ready.2 ⟨by rw [← hlq, Array.getD_eq_getD_getElem?, Array.getD_eq_getD_getElem?, Array.getElem?_eq_getElem (by omega)]; rfl, _, hoq, fun e he hb => by
      have hlt := pairOk_edge hp hoq e he hb
      rw [hl _ (by omega)]; simpa using hlt⟩
    have honly : ∀ i ∈ Region.ready .any ops listed, i = q := fun i hi => by
      obtain ⟨h0, o, ho, hready⟩ := mem_ready.1 hi
      have his : i < ops.size := (Array.getElem?_eq_some_iff.1 ho).1
      have h1 := hl i his
      rw [getD_flip (by omega) h0] at h1
      rcases Nat.lt_trichotomy i q with h2 | h2 | h2
      · simp [h2] at h1
      · exact h2
      · exfalso
        have hb : reachB ops ops.size i q = true := by
          rcases (pairOk_at hp hoq ho h2).2 (by omega) with hb | ⟨hb, _⟩
          · exact hb
          · omega
        have := reachB_sound (S := fun j => listed.getD j false = true) (fun j oj hoj hj e he hb => by
          have hjs : j < ops.size := (Array.getElem?_eq_some_iff.1 hoj).1
          have h3 := hl j hjs
          have hj' : listed.getD j false = true := hj
          rw [hj'] at h3
          have h4 : j < q := by simpa using h3.symm
          have h5 := pairOk_edge hp hoj e he hb
          show listed.getD e.on false = true
          rw [hl _ (by omega)]; simp; omega) _ i q o ho hready hb
        have this' : listed.getD q false = true := this
        rw [hlq] at this'; cases this'
    refine ⟨fun hr => (by rw [hr] at hqr; cases hqr), fun i hi => ?_⟩
    have := honly i hi
    subst this
    unfold wpOp
    rw [hoq]
    simp only
    refine stepA_sound h hk fun m fr L a w h hk => ?_
    refine suf_sound hp hQ l (i + 1) fuel _ (by omega) (by simp [hsz]) (fun j hj => ?_) (by omega) (by omega) h hk
    by_cases e : j = i
    · subst e
      rw [Array.getD_eq_getD_getElem?, Array.getElem?_setIfInBounds_self_of_lt (by omega)]; simp
    · rw [getD_set_ne false (Ne.symm e), hl j hj]
      simp; omega

section
variable {Y : Nat → AV} {O : Nat → List (Nat × Blk)} {A : Nat → List Nat} {Fs : Nat → Fr} {Ls : Nat → Loc} {G : Nat → List (Nat × Nat)} {n : Nat}
theorem klOk_spec {kl : List (Nat × Nat)} (h : klOk kl = true) : (∀ i i' k, (i, k) ∈ kl → (i', k) ∈ kl → i = i') ∧ (∀ i j k, (i, k) ∈ kl → ¬ (k, j) ∈ kl) := by
  simp only [klOk, Bool.and_eq_true, decide_eq_true_eq, List.all_eq_true, Bool.not_eq_true'] at h
  obtain ⟨h1, h2⟩ := h
  refine ⟨?_, fun i j k hi hj => ?_⟩
  · clear h2
    induction kl with
    | nil => intro i i' k h; cases h
    | cons p kl ih =>
      intro i i' k h3 h4
      simp only [List.map_cons, List.nodup_cons] at h1
      rcases List.mem_cons.1 h3 with e | h3
      · rcases List.mem_cons.1 h4 with e' | h4
        · have := e.trans e'.symm; simp at this; exact this
        · exact absurd (List.mem_map.2 ⟨_, h4, by rw [← e]⟩) h1.1
      · rcases List.mem_cons.1 h4 with e' | h4
        · exact absurd (List.mem_map.2 ⟨_, h3, by rw [← e']⟩) h1.1
        · exact ih h1.2 i i' k h3 h4
  · have := h2 _ hi
    rw [List.any_eq_false] at this
    exact this _ hj (by simp)
theorem wpAny_of (hp : pairOk n ops = true) (hn : n ≤ ops.size) (hrow : ∀ i o, i < n → ops[i]? = some o → Row X ops Y O A Fs Ls G i o) (hkl : klOk (G n) = true)
    (hQ : ∀ m fr L a w, Rel F Tg pn X.N w0 noSh m fr L a w → K fr L → Q .normal a w) (hP : ∀ c a w, ¬ Q (.panic c) a w) (hsuf : awpOps X ops (ops.toList.drop n) (Fs n) (killL ((G n).map (·.2)) (Ls n)) K) :
    ∀ (fuel : Nat) (listed : Array Bool) {m : Mp} {fr : Fr} {L : Loc} {a : Act} {w : World}, listed.size = ops.size → cnt (fun j => listed.getD j false) ops.size ≤ fuel → Half X ops Y O Fs Ls n (fun j => listed.getD j false) fr L →
      Rel F Tg pn X.N w0 (fun i j => (i, j) ∈ G n) m fr L a w → wpAny X.P .any ops Q fuel listed a w := by
  obtain ⟨hk1, hk2⟩ := klOk_spec hkl
  have hfull : ∀ (listed : Array Bool) {fr : Fr} {L : Loc}, Half X ops Y O Fs Ls n (fun j => listed.getD j false) fr L → (∀ j, j < n → listed.getD j false = true) → fr = Fs n ∧ L = Ls n := by
    intro listed fr L hH hall
    refine ⟨funext fun t => Wr.eqOn hH.wr (frames hn hrow n (Nat.le_refl _)) n hH.small (fun j hj => hj) fun j hj _ => ⟨fun h => hH.small j h, fun h => hall j h⟩, funext fun k => ?_⟩
    by_cases hex : ∃ j p, j < n ∧ p ∈ O j ∧ keyOf ops j p.1 = k
    · obtain ⟨j, p, hj, hpo, rfl⟩ := hex
      exact hH.new j p (hall j hj) hpo
    · rw [hH.old k fun j p hj hp e => hex ⟨j, p, hH.small j hj, hp, e⟩, untouched hn hrow n (Nat.le_refl _) fun j p hj hp e => hex ⟨j, p, hj, hp, e⟩]
  have hdone : ∀ (fuel : Nat) (listed : Array Bool) {m : Mp} {fr : Fr} {L : Loc} {a : Act} {w : World}, listed.size = ops.size → cnt (fun j => listed.getD j false) ops.size ≤ fuel → Half X ops Y O Fs Ls n (fun j => listed.getD j false) fr L →
      Rel F Tg pn X.N w0 (fun i j => (i, j) ∈ G n) m fr L a w → (∀ j, j < n → listed.getD j false = true) → wpAny X.P .any ops Q fuel listed a w := by
    intro fuel listed m fr L a w hsz hc hH h hall
    obtain ⟨rfl, rfl⟩ := hfull listed hH hall
    have hl : ∀ j, j < ops.size → listed.getD j false = decide (j < n) := fun j _ => by
      by_cases hj : j < n
      · rw [hall j hj]; simp [hj]
      · cases hg : listed.getD j false with
        | true => exact absurd (hH.small j hg) hj
        | false => simp [hj]
    rw [cnt_congr ops.size hl, cnt_prefix n ops.size hn] at hc
    exact suf_sound hp hQ (ops.size - n) n fuel listed (by omega) hsz hl (Nat.le_refl _) hc (h.kill _ fun i j hij => List.mem_map.2 ⟨(i, j), hij, rfl⟩) hsuf
  intro fuel
  induction fuel with
  | zero =>
    intro listed m fr L a w hsz hc hH h
    refine hdone 0 listed hsz hc hH h fun j hj => ?_
    exact cnt_zero ops.size (Nat.le_zero.1 hc) j (by omega)
  | succ fuel ih =>
    intro listed m fr L a w hsz hc hH h
    by_cases hall : ∀ j, j < n → listed.getD j false = true
    · exact hdone _ listed hsz hc hH h hall
    by_cases hlate : ∃ l, l < n ∧ lateB ops l = true ∧ l ∈ Region.ready .any ops listed
    · obtain ⟨i, hin, hlb, hi⟩ := hlate
      obtain ⟨o, ho, ⟨tx, kx, hop⟩, hgn, hap⟩ := lateB_spec hlb
      obtain ⟨h0, o', ho', hready⟩ := mem_ready.1 hi
      rw [ho] at ho'; cases ho'
      have his : i < ops.size := (Array.getElem?_eq_some_iff.1 ho).1
      have h0' : listed.getD i false = false := getD_flip (by omega) h0
      have hset : (listed.setIfInBounds i true).getD i false = true := by
        rw [Array.getD_eq_getD_getElem?, Array.getElem?_setIfInBounds_self_of_lt (by omega)]; rfl
      have hne : ∀ j, j ≠ i → (listed.setIfInBounds i true).getD j false = listed.getD j false := fun j hj => getD_set_ne false (Ne.symm hj)
      have hcnt := cnt_set (l := fun j => listed.getD j false) (l' := fun j => (listed.setIfInBounds i true).getD j false) (i := i) hne h0' hset ops.size his
      obtain ⟨o', d, ho', hd, hdo, hf, hfree, hF, hL, hG⟩ := rows_at hn hrow hin
      rw [ho] at ho'; cases ho'
      have hstep := hH.step hn hrow (S' := fun j => (listed.setIfInBounds i true).getD j false) hp hin ho h0' hready hd hset hne
      have hfit := hf.congr (fr' := fr) (hH.looks hn hrow hp hin ho h0' hready)
      have hgA : guardA X.N ops fr o = some true := by simp [guardA, hgn]
      rcases hfit with ⟨hg, dq, hdq, hq⟩ | ⟨hg, _⟩
      · have hw := guardA_wanted h hgA
        unfold qOp at hq
        rw [hop] at hq
        simp only at hq
        have hx := h.ev (.tmp tx)
        split at hq
        · rename_i vs hvs
          rw [hvs] at hx
          cases hy : vs[kx]? with
          | none => rw [hy] at hq; exact hq.elim
          | some y =>
            rw [hy] at hq
            obtain ⟨ey, eo, ek⟩ := hq
            simp only [VR] at hx
            obtain ⟨cs, e, hcs⟩ := hx
            obtain ⟨z, hz, hr⟩ := hcs.get hy
            rw [Array.getElem?_toList] at hz
            refine wpAny_first (v := z) ho (pairOk_sel hp) (fun c a w hc => (hP _ _ _ hc).elim) fuel listed a w (fun j oj hoj hji hun hno => ?_) hi (.inl ⟨hw, fun w => by simp [execOp, hop, e, Instr.extract, hz]⟩) ?_
            · rcases hap j oj hoj hji with ⟨e, he, he1, he2⟩ | ⟨e, he, he1, he2⟩ | h'
              · have := hready e he he2
                rw [he1] at this
                have hjs : j < ops.size := (Array.getElem?_eq_some_iff.1 hoj).1
                rw [getD_flip (by omega) hun] at this; cases this
              · exact absurd he1 (hno e he he2)
              · exact h'
            · rw [← eo, ← ey] at hstep
              rw [hd]
              exact ih _ (by simp [hsz]) (by omega) hstep (h.put (some d) hr)
        · exact hq.elim
      · rw [hgA] at hg; cases hg
    refine ⟨fun hr => absurd (fun j hj => ready_nil_all hp hsz hr j (by omega)) hall, fun i hi => ?_⟩
    obtain ⟨h0, o, ho, hready⟩ := mem_ready.1 hi
    have his : i < ops.size := (Array.getElem?_eq_some_iff.1 ho).1
    have h0' : listed.getD i false = false := getD_flip (by omega) h0
    have hset : (listed.setIfInBounds i true).getD i false = true := by
      rw [Array.getD_eq_getD_getElem?, Array.getElem?_setIfInBounds_self_of_lt (by omega)]; rfl
    have hne : ∀ j, j ≠ i → (listed.setIfInBounds i true).getD j false = listed.getD j false := fun j hj => getD_set_ne false (Ne.symm hj)
    have hcnt := cnt_set (l := fun j => listed.getD j false) (l' := fun j => (listed.setIfInBounds i true).getD j false) (i := i) hne h0' hset ops.size his
    unfold wpOp
    rw [ho]
    simp only
    by_cases hin : i < n
    · obtain ⟨o', d, ho', hd, hdo, hf, hfree, hF, hL, hG⟩ := rows_at hn hrow hin
      rw [ho] at ho'; cases ho'
      have hstep := hH.step hn hrow (S' := fun j => (listed.setIfInBounds i true).getD j false) hp hin ho h0' hready hd hset hne
      have hfit := hf.congr (fr' := fr) (hH.looks hn hrow hp hin ho h0' hready)
      have hgen := hH.gens hn hrow hp hin ho h0' hready hd
      rcases hfit with ⟨hg, dq, hdq, hq⟩ | ⟨hg, hy, hos, hks⟩
      · rw [guardA_wanted h hg, if_pos rfl]
        obtain ⟨y, os, ks, ⟨rfl, rfl, rfl⟩, hY⟩ := qOp_sound h (hH.ext hn hrow hin) (o := o) (by rw [hdq]; rfl) hq
        obtain ⟨hfr1, hfr2⟩ := freeB_spec hfree
        have hY := hY (fun p hp => by rw [hd]; exact (hgen p.1 (hfr1 p hp).1).trans (hfr1 p hp).2.1) (fun p hp => by rw [hd]; exact (hfr1 p hp).2.2) hfr2 (fun k hk => by
          rw [hd]
          have hin' := pairs_in hn hrow hin hk hdo
          exact ⟨hin', fun i' hi' => hk1 _ _ _ hi' hin', fun i' hi' => hk2 _ _ _ hin' hi'⟩)
        refine .inl (hY _ _ fun v w' ⟨m', h1, h2⟩ => ?_)
        rw [hd] at h1 h2 ⊢
        exact ih _ (by simp [hsz]) (by omega) hstep (h1.put (some d) h2)
      · rw [guardA_wanted h hg, if_neg (by simp)]
        rw [hy, hos] at hstep
        rw [hd]
        exact ih _ (by simp [hsz]) (by omega) hstep (h.put (some d) (by simp [VR]))
    · exfalso
      refine hall fun j => ?_
      induction j using Nat.strongRecOn with
      | _ j ihj =>
      intro hj
      have hoj : ops[j]? = some ops[j] := Array.getElem?_eq_getElem (by omega)
      rcases (pairOk_at hp hoj ho (by omega)).2 (by omega) with hb | ⟨_, hlb⟩
      · exact reachB_sound (S := fun j => listed.getD j false = true) (fun j oj hoj hj e he hb => hH.closed j oj hoj hj e he hb) _ i j o ho hready hb
      · cases hg : listed.getD j false with
        | true => rfl
        | false =>
          exfalso
          refine hlate ⟨j, hj, hlb, mem_ready.2 ⟨by rw [← hg, Array.getD_eq_getD_getElem?, Array.getD_eq_getD_getElem?, Array.getElem?_eq_getElem (by omega)]; rfl, _, hoj, fun e he hb => ?_⟩⟩
          have hlt := pairOk_edge hp hoj e he hb
          exact ihj _ hlt (by omega)
theorem start_none (n : Nat) (j : Nat) : (Array.replicate n false).getD j false = false := by
  rw [Array.getD_eq_getD_getElem?, Array.getElem?_replicate]; split <;> rfl
theorem Half.start (fr : Fr) (L : Loc) (hF : Fs 0 = fr) (hLs : Ls 0 = L) : Half X ops Y O Fs Ls n (fun j => (Array.replicate ops.size false).getD j false) fr L := by
  subst hF hLs
  refine ⟨fun j hj => ?_, fun j o _ hj => ?_, fun t => ⟨fun _ => rfl, fun j hj => ?_⟩, fun _ _ => rfl, fun j p hj => ?_⟩
  all_goals (have h1 := start_none ops.size j; have h2 : (Array.replicate ops.size false).getD j false = true := hj; rw [h1] at h2; cases h2)
end
/-- The quiet operations at a region's head. -/
def isW (X : Cx) (o : Oper) : Bool :=
  match o.dst with
  | none => true
  | some _ => match o.op with
    | .store .. => true
    | _ => match mutF X o with
      | some _ => true
      | none => false
def quietN (X : Cx) : List Oper → Nat
  | [] => 0
  | o :: l => match isW X o with
    | true => 0
    | false => quietN X l + 1
theorem quietN_le (X : Cx) : ∀ l : List Oper, quietN X l ≤ l.length
  | [] => Nat.le_refl _
  | o :: l => by
    unfold quietN
    split
    · exact Nat.zero_le _
    · have := quietN_le X l; simp; omega
/-- A region whose order is open. -/
def drawK (X : Cx) (ops : Array Oper) (fr : Fr) (L : Loc) (K : Fr → Loc → Prop) : Prop :=
  (pairOk (quietN X ops.toList) ops = true ∧ X.P.follows .mixedOrders = true) ∧ lexD X ops (ops.toList.take (quietN X ops.toList)) fr L [] fun fr L kl => match klOk kl with
    | true => killK (kl.map (·.2)) L fun L => awpOps X ops (ops.toList.drop (quietN X ops.toList)) fr L K
    | false => False
theorem drawK_sound {m : Mp} {fr : Fr} {L : Loc} {a : Act} {w : World} {id : Nat} (h : Rel F Tg pn X.N w0 noSh m fr L a w) (hk : drawK X ops fr L K)
    (hQ : ∀ m fr L a w, Rel F Tg pn X.N w0 noSh m fr L a w → K fr L → Q .normal a w) (hP : ∀ c a w, ¬ Q (.panic c) a w) : (Code.region id ops true).wp X.P Q a w := by
  obtain ⟨⟨hok, hm⟩, hlex⟩ := hk
  have hn : quietN X ops.toList ≤ ops.size := by have := quietN_le X ops.toList; simpa using this
  obtain ⟨Y, O, A, Fs, Ls, G, hF, hLs, hG, hrow, hK⟩ := lexD_tab hn hlex
  split at hK
  · rename_i hkl
    rw [killK_eq] at hK
    exact wp_region_any hm (wpAny_of hok hn hrow hkl hQ hP hK _ _ (by simp) (cnt_le _ _) (Half.start fr L hF hLs) ((h.world (Below.draw w _)).sharp _))
  · exact hK.elim
end

/-! ### States by lists; a state under other names -/
def renA (ρ : Nat → Nat) : Nat → AV → AV
  | 0, x => pl x
  | n + 1, x => match x with
    | .loc k off => .loc (ρ k) off
    | .osl k => .osl (ρ k)
    | .eloc k i j => .eloc (ρ k) i j
    | .ref cells t => .ref (cells.map (renA ρ n)) t
    | .agg cells => .agg (cells.map (renA ρ n))
    | .tup cells => .tup (cells.map (renA ρ n))
    | .fn f cells => .fn f (cells.map (renA ρ n))
    | x => x
def renB (ρ : Nat → Nat) : Blk → Blk
  | .av l => .av (l.map (renA ρ 4))
  | .tab r xs => .tab r xs
def okA (ks : List Nat) : Nat → AV → Bool
  | 0, x => plain x
  | n + 1, x => match x with
    | .loc k _ => ks.any (Nat.beq k)
    | .osl k => ks.any (Nat.beq k)
    | .eloc k _ _ => ks.any (Nat.beq k)
    | .ref cells _ => cells.all (okA ks n)
    | .agg cells => cells.all (okA ks n)
    | .tup cells => cells.all (okA ks n)
    | .fn _ cells => cells.all (okA ks n)
    | _ => true
def okBk (ks : List Nat) : Blk → Bool
  | .av l => l.all (okA ks 4)
  | .tab _ _ => true
def nodupN : List Nat → Bool
  | [] => true
  | x :: xs => !(xs.any (Nat.beq x)) && nodupN xs
def okJ (ρ : Nat → Nat) (jf : List (Nat × AV)) (jl : List (Nat × Blk)) : Bool :=
  (nodupN (jl.map fun p => ρ p.1) && jl.all fun p => !(Nat.beq p.1 LK) || Nat.beq (ρ p.1) LK) && jf.all (fun p => okA (jl.map (·.1)) 4 p.2) && jl.all (fun p => okBk (jl.map (·.1)) p.2)
def frOf : List (Nat × AV) → Fr
  | [] => fun _ => .undef
  | (t, v) :: l => upd (frOf l) t v
def locOf : List (Nat × Blk) → Loc
  | [] => L0
  | (k, b) :: l => upd (locOf l) k (.live b)
def MtF (ρ : Nat → Nat) (fr : Fr) : List (Nat × AV) → Prop
  | [] => True
  | (t, v) :: l => fr t = renA ρ 4 v ∧ MtF ρ fr l
def MtL (ρ : Nat → Nat) (L : Loc) : List (Nat × Blk) → Prop
  | [] => True
  | (k, b) :: l => L (ρ k) = .live (renB ρ b) ∧ MtL ρ L l
/-- The state holds what the lists say, its blocks under other names. -/
def Mt (ρ : Nat → Nat) (fr : Fr) (L : Loc) (jf : List (Nat × AV)) (jl : List (Nat × Blk)) : Prop := okJ ρ jf jl = true ∧ MtF ρ fr jf ∧ MtL ρ L jl

section
variable {F : Nat → Prop} {N : Nat} {pn : Option (Nat × Nat)} {Tg : AV → Value → Prop} {w0 w : World} {m m' : Mp} {L L' : Loc} {fr : Fr} {a : Act} {ρ : Nat → Nat} {ks : List Nat}
theorem nodupN_spec : ∀ {l : List Nat}, nodupN l = true → l.Nodup
  | [], _ => by simp
  | x :: xs, h => by
    simp only [nodupN, Bool.and_eq_true, Bool.not_eq_true', List.any_eq_false] at h
    rw [List.nodup_cons]
    exact ⟨fun hm => h.1 x hm (by simp), nodupN_spec h.2⟩
theorem MtL_get : ∀ {jl : List (Nat × Blk)}, MtL ρ L jl → ∀ k b, (k, b) ∈ jl → L (ρ k) = .live (renB ρ b)
  | [], _, k, b, h => by cases h
  | (k', b') :: jl, hm, k, b, h => by
    rcases List.mem_cons.1 h with e | h
    · cases e; exact hm.1
    · exact MtL_get hm.2 k b h
theorem locOf_spec : ∀ (jl : List (Nat × Blk)) (k : Nat), (∃ b, (k, b) ∈ jl ∧ locOf jl k = .live b) ∨ (k ∉ jl.map (·.1) ∧ locOf jl k = .free)
  | [], k => .inr ⟨by simp, rfl⟩
  | (k', b') :: jl, k => by
    by_cases e : k = k'
    · subst e; exact .inl ⟨b', by simp, by simp [locOf]⟩
    · rcases locOf_spec jl k with ⟨b, h1, h2⟩ | ⟨h1, h2⟩
      · exact .inl ⟨b, List.mem_cons_of_mem _ h1, by rw [locOf, upd_ne _ _ e]; exact h2⟩
      · exact .inr ⟨by simp only [List.map_cons, List.mem_cons, not_or]; exact ⟨e, h1⟩, by rw [locOf, upd_ne _ _ e]; exact h2⟩
theorem VRs.mapBack {f : AV → AV} {g : AV → Bool} (hf : ∀ x v, g x = true → VR F Tg w m L (f x) v → VR F Tg w m' L' x v) : ∀ {xs : List AV} {vs : List Value}, xs.all g = true → VRs F Tg w m L (xs.map f) vs → VRs F Tg w m' L' xs vs
  | [], _, _, h => by simpa [VRs] using h
  | x :: xs, _, hg, h => by
    simp only [List.all_cons, Bool.and_eq_true] at hg
    simp only [VRs, List.map_cons] at h ⊢
    obtain ⟨v, vs', rfl, h1, h2⟩ := h
    exact ⟨v, vs', rfl, hf _ _ hg.1 h1, VRs.mapBack hf hg.2 h2⟩
theorem VRat.mapBack {f : AV → AV} {g : AV → Bool} (hf : ∀ x v, g x = true → VR F Tg w m L (f x) v → VR F Tg w m' L' x v) : ∀ {xs : List AV} {b off : Nat}, xs.all g = true → VRat F Tg w m L (xs.map f) b off → VRat F Tg w m' L' xs b off
  | [], _, _, _, _ => by simp [VRat]
  | x :: xs, b, off, hg, h => by
    simp only [List.all_cons, Bool.and_eq_true] at hg
    simp only [VRat, List.map_cons] at h ⊢
    obtain ⟨⟨c, hc, h1⟩, h2⟩ := h
    exact ⟨⟨c, hc, hf _ _ hg.1 h1⟩, VRat.mapBack hf hg.2 h2⟩
theorem VRpre.mapBack {f : AV → AV} {g : AV → Bool} (hf : ∀ x v, g x = true → VR F Tg w m L (f x) v → VR F Tg w m' L' x v) : ∀ {xs : List AV} {vs : List Value}, xs.all g = true → VRpre F Tg w m L (xs.map f) vs → VRpre F Tg w m' L' xs vs
  | [], _, _, _ => by simp [VRpre]
  | x :: xs, _, hg, h => by
    simp only [List.all_cons, Bool.and_eq_true] at hg
    simp only [VRpre, List.map_cons] at h ⊢
    obtain ⟨v, vs', rfl, h1, h2⟩ := h
    exact ⟨v, vs', rfl, hf _ _ hg.1 h1, VRpre.mapBack hf hg.2 h2⟩
theorem renA_sound {jl : List (Nat × Blk)} (hL : MtL ρ L jl) : ∀ (n : Nat) (x : AV) (v : Value), okA (jl.map (·.1)) n x = true → VR F Tg w m L (renA ρ n x) v → VR F Tg w (fun k => m (ρ k)) (locOf jl) x v
  | 0, x, v, hg, hv => by
    simp only [okA] at hg
    simp only [renA, pl, hg, if_true] at hv
    exact hv.of_plain hg
  | n + 1, x, v, hg, hv => by
    have ih := renA_sound hL n
    have key : ∀ k, (jl.map (·.1)).any (Nat.beq k) = true → ∃ b, locOf jl k = .live b ∧ L (ρ k) = .live (renB ρ b) := fun k hk => by
      rw [List.any_eq_true] at hk
      obtain ⟨k', hk', e⟩ := hk
      have e := Nat.eq_of_beq_eq_true e
      subst e
      rcases locOf_spec jl k with ⟨b, h1, h2⟩ | ⟨h1, _⟩
      · exact ⟨b, h2, MtL_get hL k b h1⟩
      · exact absurd hk' h1
    cases x with
    | loc k off =>
      simp only [okA] at hg
      simp only [renA, VR] at hv ⊢
      obtain ⟨b, h1, h2⟩ := key k hg
      exact ⟨by rw [h1]; simp, fun _ _ => hv.2 _ h2⟩
    | osl k =>
      simp only [okA] at hg
      simp only [renA, VR] at hv ⊢
      obtain ⟨b, h1, h2⟩ := key k hg
      refine ⟨by rw [h1]; simp, fun r xs e => ?_⟩
      rw [h1] at e; cases e
      exact hv.2 r xs h2
    | eloc k i j =>
      simp only [okA] at hg
      simp only [renA, VR] at hv ⊢
      obtain ⟨b, h1, h2⟩ := key k hg
      refine ⟨by rw [h1]; simp, fun r xs e => ?_⟩
      rw [h1] at e; cases e
      exact hv.2 r xs h2
    | ref cells t =>
      simp only [okA] at hg
      simp only [renA, VR] at hv ⊢
      obtain ⟨ht, b, off, e, hb, hc⟩ := hv
      exact ⟨ht, b, off, e, hb, hc.mapBack ih hg⟩
    | agg cells =>
      simp only [okA] at hg
      simp only [renA, VR] at hv ⊢
      obtain ⟨cs, e, hc⟩ := hv
      exact ⟨cs, e, hc.mapBack ih hg⟩
    | tup cells =>
      simp only [okA] at hg
      simp only [renA, VR] at hv ⊢
      obtain ⟨cs, e, hc⟩ := hv
      exact ⟨cs, e, hc.mapBack ih hg⟩
    | fn f cells =>
      simp only [okA] at hg
      simp only [renA, VR] at hv ⊢
      obtain ⟨cs, e, hc⟩ := hv
      exact ⟨cs, e, hc.mapBack ih hg⟩
    | undef => simp [VR]
    | skip => simp only [renA, VR] at hv ⊢; exact hv
    | bool b => simp only [renA, VR] at hv ⊢; exact hv
    | int k n => simp only [renA, VR] at hv ⊢; exact hv
    | flt k x => simp only [renA, VR] at hv ⊢; exact hv
    | fbits x => simp only [renA, VR] at hv ⊢; exact hv
    | cpx k x y => simp only [renA, VR] at hv ⊢; exact hv
    | nil => simp only [renA, VR] at hv ⊢; exact hv
    | emp r => simp only [renA, VR] at hv ⊢; exact hv
    | sli r xs t => simp only [renA, VR] at hv ⊢; exact hv
    | eref r xs i j => simp only [renA, VR] at hv ⊢; exact hv
    | own i r xs => simp only [renA, VR] at hv
theorem renB_has {b : Blk} (h : b.has) : (renB ρ b).has := by cases b <;> exact h
theorem Rel.ren (h : Rel F Tg pn N w0 noSh m fr L a w) {jf : List (Nat × AV)} {jl : List (Nat × Blk)} (hm : Mt ρ fr L jf jl) : Rel F Tg pn N w0 noSh (fun k => m (ρ k)) (frOf jf) (locOf jl) a w := by
  obtain ⟨hok, hF, hL⟩ := hm
  simp only [okJ, Bool.and_eq_true, List.all_eq_true] at hok
  obtain ⟨⟨⟨hnd, hpin⟩, hjf⟩, hjl⟩ := hok
  have hnd := nodupN_spec hnd
  have live : ∀ k b, locOf jl k = .live b → (k, b) ∈ jl ∧ L (ρ k) = .live (renB ρ b) := fun k b hk => by
    rcases locOf_spec jl k with ⟨b', h1, h2⟩ | ⟨_, h2⟩
    · rw [hk] at h2; cases h2; exact ⟨h1, MtL_get hL k b h1⟩
    · rw [hk] at h2; cases h2
  refine ⟨h.kept, h.sub, fun k b hk hbh => ?_, fun k k' c c' h1 hb1 h2 hb2 e => ?_, fun p b e hb => (by
    obtain ⟨hm1, hl1⟩ := live _ _ hb
    have := hpin _ hm1
    simp only [Nat.beq_refl, Bool.not_true, Bool.false_or, Nat.beq_eq] at this
    rw [this] at hl1 ⊢
    exact h.pin p _ e hl1), h.size, h.defers, fun t => ?_⟩
  · obtain ⟨hmem, hl⟩ := live k b hk
    obtain ⟨h1, c, t, h2, h3, h4⟩ := h.heap _ _ hl (renB_has hbh)
    refine ⟨h1, c, t, h2, h3, ?_⟩
    cases b with
    | tab r xs => exact h4.rows.pre
    | av l =>
      have := hjl _ hmem
      simp only [okBk] at this
      exact h4.mapBack (fun x v => renA_sound hL 4 x v) this
  · obtain ⟨hm1, hl1⟩ := live k c h1
    obtain ⟨hm2, hl2⟩ := live k' c' h2
    rcases h.inj _ _ _ _ hl1 (renB_has hb1) hl2 (renB_has hb2) e with e' | e' | e'
    · left
      have inj : ∀ (l : List (Nat × Blk)), (l.map fun p => ρ p.1).Nodup → ∀ p q, p ∈ l → q ∈ l → ρ p.1 = ρ q.1 → p = q := by
        intro l
        induction l with
        | nil => intro _ p q hp; cases hp
        | cons x l ih =>
          intro hnd p q hp hq e
          simp only [List.map_cons, List.nodup_cons] at hnd
          rcases List.mem_cons.1 hp with e1 | h1
          · rcases List.mem_cons.1 hq with e2 | h2
            · rw [e1, e2]
            · rw [e1] at e
              exact absurd (List.mem_map.2 ⟨q, h2, e.symm⟩) hnd.1
          · rcases List.mem_cons.1 hq with e2 | h2
            · rw [e2] at e
              exact absurd (List.mem_map.2 ⟨p, h1, e⟩) hnd.1
            · exact ih hnd.2 p q h1 h2 e
      have := inj jl hnd _ _ hm1 hm2 e'
      exact congrArg Prod.fst this
    · exact e'.elim
    · exact e'.elim
  · have aux : ∀ (l : List (Nat × AV)), MtF ρ fr l → (∀ p ∈ l, okA (jl.map (·.1)) 4 p.2 = true) → VR F Tg w (fun k => m (ρ k)) (locOf jl) (frOf l t) (a.tmps.getD t Go.undef) := by
      intro l
      induction l with
      | nil => intro _ _; show VR F Tg w _ _ .undef _; simp only [VR]
      | cons p l ih =>
        intro hm hg
        obtain ⟨t', v⟩ := p
        by_cases e : t = t'
        · subst e
          rw [frOf, upd_same]
          have := h.tmps t
          rw [hm.1] at this
          exact renA_sound hL 4 v _ (hg (t, v) (by simp)) this
        · rw [frOf, upd_ne _ _ e]
          exact ih hm.2 fun p hp => hg p (by simp [hp])
    exact aux jf hF hjf
end

/-! ### Code -/
inductive Ex where
  | normal
  | exit (id : Nat)
  | ret
/-- A test's outcome is known in its branches. -/
def setB (fr : Fr) (c : Operand) (b : Bool) : Fr :=
  match c with
  | .tmp t => upd fr t (.bool b)
  | _ => fr
/-! ### A small region in each of its orders -/
def hasN (d : List Nat) (j : Nat) : Bool := d.any (Nat.beq j)
def isReady (ops : Array Oper) (d : List Nat) (i : Nat) : Bool :=
  !(hasN d i) && match ops[i]? with
    | some o => o.after.toList.all fun e => !(Region.binds .any e) || hasN d e.on
    | none => false
def allI : List Nat → (Nat → Bool) → (Nat → Prop) → Prop
  | [], _, _ => True
  | i :: l, b, p => match b i with
    | true => p i ∧ allI l b p
    | false => allI l b p
theorem allI_spec {b : Nat → Bool} {p : Nat → Prop} : ∀ {l : List Nat}, allI l b p → ∀ i ∈ l, b i = true → p i
  | [], _, i, hi, _ => by cases hi
  | x :: l, h, i, hi, hb => by
    unfold allI at h
    rcases List.mem_cons.1 hi with rfl | hi
    · rw [hb] at h; exact h.1
    · split at h
      · exact allI_spec h.2 i hi hb
      · exact allI_spec h i hi hb
def drawAll (X : Cx) (ops : Array Oper) : Nat → List Nat → Fr → Loc → (Fr → Loc → Prop) → Prop
  | 0, d, fr, L, K => match (List.range ops.size).all (hasN d) with
    | true => K fr L
    | false => False
  | fuel + 1, d, fr, L, K => match (List.range ops.size).any (isReady ops d) with
    | true => allI (List.range ops.size) (isReady ops d) fun i => match ops[i]? with
      | some o => stepA X ops o fr L fun fr L => drawAll X ops fuel (i :: d) fr L K
      | none => False
    | false => False
def isMove (o : Oper) : Bool :=
  match o.op with
  | .move _ => true
  | _ => false
/-- May operation 'i', a move, be the next without loss? -/
def freeM (ops : Array Oper) (d : List Nat) (i : Nat) : Bool :=
  match ops[i]? with
  | some oi => (isMove oi && oi.guard.isNone) && (List.range ops.size).all fun j => Nat.beq j i || (hasN d j || (match ops[j]? with
    | some oj => oj.after.any (fun e => Region.binds .any e && Nat.beq e.on i) || oi.apart ops oj
    | none => true))
  | none => false
def fsOk (ops : Array Oper) : List Nat → List Nat → Bool
  | [], _ => true
  | i :: is, d => (isReady ops d i && freeM ops d i) && fsOk ops is (i :: d)
def noSels (ops : Array Oper) : Bool := (List.range ops.size).all fun j => match ops[j]? with
  | some oj => noSel oj
  | none => true
/-- Moves that nothing minds go first. -/
def drawFs (X : Cx) (ops : Array Oper) : List Nat → List Nat → Fr → Loc → (List Nat → Fr → Loc → Prop) → Prop
  | [], d, fr, L, K => K d fr L
  | i :: is, d, fr, L, K => match ops[i]? with
    | some o => awpOp X o fr L fun fr L => drawFs X ops is (i :: d) fr L K
    | none => False
def regK (X : Cx) (ops : Array Oper) (draw : Bool) (fr : Fr) (L : Loc) (K : Fr → Loc → Prop) : Prop :=
  match draw with
  | false => awpOps X ops ops.toList fr L K
  | true => match X.all with
    | true => ∃ fs : List Nat, (X.P.follows .mixedOrders = true ∧ (noSels ops && (fsOk ops fs [] && Nat.ble fs.length ops.size)) = true) ∧ drawFs X ops fs [] fr L fun d fr L => drawAll X ops (ops.size - fs.length) d fr L K
    | false => drawK X ops fr L K
def awp (X : Cx) : Code → Fr → Loc → (Ex → Fr → Loc → Prop) → Prop
  | .skip, fr, L, K => K .normal fr L
  | .region id ops draw, fr, L, K => match X.cuts.any (Nat.beq id) with
    | false => regK X ops draw fr L (K .normal)
    | true => ∃ (σ : Type) (Inv : σ → Prop) (jf : σ → List (Nat × AV)) (jl : σ → List (Nat × Blk)), (∃ s ρ, Inv s ∧ Mt ρ fr L (jf s) (jl s)) ∧ ∀ s, Inv s → regK X ops draw (frOf (jf s)) (locOf (jl s)) (K .normal)
  | .seq a b, fr, L, K => awp X a fr L fun e fr L => match e with
    | .normal => awp X b fr L K
    | e => K e fr L
  | .cond c a b, fr, L, K => match evA fr c with
    | .bool p => br p (awp X a (setB fr c true) L K) (awp X b (setB fr c false) L K)
    | _ => False
  | .block id body, fr, L, K => awp X body fr L fun e fr L => match e with
    | .exit j => match Nat.beq j id with
      | true => K .normal fr L
      | false => K (.exit j) fr L
    | e => K e fr L
  | .loop body, fr, L, K => ∃ (σ : Type) (Inv : σ → Prop) (jf : σ → List (Nat × AV)) (jl : σ → List (Nat × Blk)) (μ : σ → Nat), (∃ s ρ, Inv s ∧ Mt ρ fr L (jf s) (jl s)) ∧
      ∀ s, Inv s → awp X body (frOf (jf s)) (locOf (jl s)) fun e fr' L' => match e with
        | .normal => ∃ s' ρ, (Inv s' ∧ μ s' < μ s) ∧ Mt ρ fr' L' (jf s') (jl s')
        | e => K e fr' L'
  | .exit id, fr, L, K => K (.exit id) fr L
  | .ret, fr, L, K => K .ret fr L
  | _, _, _, _ => False

section
variable {F : Nat → Prop} {Tg Tg' : AV → Value → Prop} {pn : Option (Nat × Nat)} {w0 w w' : World} {m m' mr : Mp} {L L' : Loc} {fr : Fr} {a : Act} {X : Cx}

/-- What a claim on abstract states says of the model's. -/
def Conc (X : Cx) (F : Nat → Prop) (Tg : AV → Value → Prop) (pn : Option (Nat × Nat)) (w0 : World) (K : Ex → Fr → Loc → Prop) : Exit → Act → World → Prop
  | .normal, a, w => ∃ m fr L, Rel F Tg pn X.N w0 noSh m fr L a w ∧ K .normal fr L
  | .exit id, a, w => ∃ m fr L, Rel F Tg pn X.N w0 noSh m fr L a w ∧ K (.exit id) fr L
  | .ret, a, w => ∃ m fr L, Rel F Tg pn X.N w0 noSh m fr L a w ∧ K .ret fr L
  | _, _, _ => False

theorem exists_least {p : Nat → Prop} (h : ∃ n, p n) : ∃ n, p n ∧ ∀ k, k < n → ¬ p k := by
  obtain ⟨n, hn⟩ := h
  induction n using Nat.strongRecOn with
  | _ n ih =>
    by_cases hk : ∃ k, k < n ∧ p k
    · obtain ⟨k, h1, h2⟩ := hk; exact ih k h1 h2
    · exact ⟨n, hn, fun k h1 h2 => hk ⟨k, h1, h2⟩⟩
open Classical in
/-- The least number at which something holds. -/
noncomputable def leastN (p : Nat → Prop) : Nat := if h : ∃ n, p n then Classical.choose (exists_least h) else 0
theorem leastN_spec {p : Nat → Prop} (h : ∃ n, p n) : p (leastN p) := by
  unfold leastN; rw [dif_pos h]; exact (Classical.choose_spec (exists_least h)).1
theorem leastN_le {p : Nat → Prop} {n : Nat} (h : p n) : leastN p ≤ n := by
  have h' : ∃ n, p n := ⟨n, h⟩
  unfold leastN; rw [dif_pos h']
  exact Nat.le_of_not_lt fun hlt => (Classical.choose_spec (exists_least h')).2 n hlt h
theorem wp_loop_nat {P : Program} {Q : Exit → Act → World → Prop} {c : Code} (J : Nat → Act → World → Prop) {n : Nat} (h0 : J n a w)
    (round : ∀ n a w, J n a w → c.wp P (Exit.then (fun a' w' => ∃ n', n' < n ∧ J n' a' w') Q) a w) : (Code.loop c).wp P Q a w := by
  refine wp_loop (fun a w => ∃ n, J n a w) (fun a w => leastN fun n => J n a w) ⟨n, h0⟩ fun a w h => ?_
  refine wp_mono (round _ a w (leastN_spec h)) fun e a' w' q => ?_
  cases e <;> simp only [Exit.then] at q ⊢
  · obtain ⟨n', h1, h2⟩ := q
    exact ⟨⟨n', h2⟩, Nat.lt_of_le_of_lt (leastN_le h2) h1⟩
  all_goals exact q
theorem isReady_iff {ops : Array Oper} {d : List Nat} {listed : Array Bool} (hl : ∀ j, j < ops.size → listed.getD j false = hasN d j) (hsz : listed.size = ops.size) (hedge : ∀ (i : Nat) o, ops[i]? = some o → ∀ e ∈ o.after, Region.binds .any e = true → listed.getD e.on false = hasN d e.on) {i : Nat} :
    i ∈ Region.ready .any ops listed ↔ i < ops.size ∧ isReady ops d i = true := by
  rw [mem_ready]
  constructor
  · rintro ⟨h0, o, ho, hr⟩
    have his : i < ops.size := (Array.getElem?_eq_some_iff.1 ho).1
    refine ⟨his, ?_⟩
    have h1 := getD_flip (by omega) h0
    rw [hl i his] at h1
    simp only [isReady, h1, ho, Bool.not_false, Bool.true_and, List.all_eq_true]
    intro e he
    have he := Array.mem_toList_iff.1 he
    cases hb : Region.binds .any e with
    | false => rfl
    | true => rw [← hedge i o ho e he hb, hr e he hb]; rfl
  · rintro ⟨his, h⟩
    simp only [isReady, Bool.and_eq_true, Bool.not_eq_true'] at h
    obtain ⟨h1, h2⟩ := h
    have ho : ops[i]? = some ops[i] := Array.getElem?_eq_getElem his
    rw [ho] at h2
    simp only [List.all_eq_true] at h2
    refine ⟨?_, _, ho, fun e he hb => ?_⟩
    · rw [← hl i his] at h1
      rw [Array.getD_eq_getD_getElem?, Array.getElem?_eq_getElem (by omega)] at h1 ⊢
      exact h1
    · have := h2 e (Array.mem_toList_iff.2 he)
      rw [hb] at this
      rw [hedge i _ ho e he hb]; simpa using this
theorem drawAll_sound {ops : Array Oper} {K : Fr → Loc → Prop} {Q : Exit → Act → World → Prop} (hQ : ∀ m fr L a w, Rel F Tg pn X.N w0 noSh m fr L a w → K fr L → Q .normal a w) :
    ∀ (fuel : Nat) (d : List Nat) (listed : Array Bool) {m : Mp} {fr : Fr} {L : Loc} {a : Act} {w : World}, listed.size = ops.size → (∀ j, listed.getD j false = (hasN d j && decide (j < ops.size))) → (∀ j, hasN d j = true → j < ops.size) →
      Rel F Tg pn X.N w0 noSh m fr L a w → drawAll X ops fuel d fr L K → wpAny X.P .any ops Q fuel listed a w
  | 0, d, listed, m, fr, L, a, w, hsz, hl, hd, h, hk => by
    unfold drawAll at hk
    split at hk
    · rename_i hall
      rw [List.all_eq_true] at hall
      refine ⟨List.eq_nil_iff_forall_not_mem.2 fun j hj => ?_, hQ _ _ _ _ _ h hk⟩
      obtain ⟨h0, o, ho, _⟩ := mem_ready.1 hj
      have hjs : j < ops.size := (Array.getElem?_eq_some_iff.1 ho).1
      have h1 := getD_flip (by omega) h0
      rw [hl j, hall j (List.mem_range.2 hjs)] at h1
      simp [hjs] at h1
    · exact hk.elim
  | fuel + 1, d, listed, m, fr, L, a, w, hsz, hl, hd, h, hk => by
    unfold drawAll at hk
    split at hk
    case h_2 => exact hk.elim
    rename_i hany
    have heq : ∀ j, listed.getD j false = hasN d j := fun j => by
      rw [hl j]
      cases hh : hasN d j with
      | false => rfl
      | true => simp [hd j hh]
    have hready : ∀ {i}, i ∈ Region.ready .any ops listed ↔ i < ops.size ∧ isReady ops d i = true := fun {i} => isReady_iff (fun j _ => heq j) hsz (fun _ _ _ e _ _ => heq e.on)
    refine ⟨fun hr => ?_, fun i hi => ?_⟩
    · exfalso
      rw [List.any_eq_true] at hany
      obtain ⟨i, h1, h2⟩ := hany
      have := hready.2 ⟨List.mem_range.1 h1, h2⟩
      rw [hr] at this; cases this
    · obtain ⟨his, hri⟩ := hready.1 hi
      have hstep := allI_spec hk i (List.mem_range.2 his) hri
      have ho : ops[i]? = some ops[i] := Array.getElem?_eq_getElem his
      unfold wpOp
      rw [ho] at hstep ⊢
      simp only at hstep ⊢
      refine stepA_sound h hstep fun m fr L a w h hk => drawAll_sound hQ fuel (i :: d) _ (by simp [hsz]) (fun j => ?_) (fun j hj => ?_) h hk
      · by_cases e : j = i
        · subst e
          rw [Array.getD_eq_getD_getElem?, Array.getElem?_setIfInBounds_self_of_lt (by omega)]
          simp [hasN, his]
        · rw [getD_set_ne false (Ne.symm e), hl j]
          congr 1
          simp only [hasN, List.any_cons]
          rw [show Nat.beq j i = false by rw [← Bool.not_eq_true, Nat.beq_eq]; exact e, Bool.false_or]
      · simp only [hasN, List.any_cons, Bool.or_eq_true] at hj
        rcases hj with hj | hj
        · rw [Nat.eq_of_beq_eq_true hj]; exact his
        · exact hd j hj
theorem isReady_lt {ops : Array Oper} {d : List Nat} {i : Nat} (h : isReady ops d i = true) : i < ops.size := by
  unfold isReady at h
  cases ho : ops[i]? with
  | none => rw [ho] at h; simp at h
  | some o => exact (Array.getElem?_eq_some_iff.1 ho).1
theorem drawFs_sound {ops : Array Oper} {K : Fr → Loc → Prop} {Q : Exit → Act → World → Prop} (hQ : ∀ m fr L a w, Rel F Tg pn X.N w0 noSh m fr L a w → K fr L → Q .normal a w) (hP : ∀ c a w, ¬ Q (.panic c) a w) (hns : noSels ops = true) (fuel : Nat) :
    ∀ (fs : List Nat) (d : List Nat) (listed : Array Bool) {m : Mp} {fr : Fr} {L : Loc} {a : Act} {w : World}, listed.size = ops.size → (∀ j, listed.getD j false = (hasN d j && decide (j < ops.size))) → (∀ j, hasN d j = true → j < ops.size) → fsOk ops fs d = true →
      Rel F Tg pn X.N w0 noSh m fr L a w → (drawFs X ops fs d fr L fun d fr L => drawAll X ops fuel d fr L K) → wpAny X.P .any ops Q (fuel + fs.length) listed a w
  | [], d, listed, m, fr, L, a, w, hsz, hl, hd, _, h, hk => by
    unfold drawFs at hk
    exact drawAll_sound hQ fuel d listed hsz hl hd h hk
  | i :: is, d, listed, m, fr, L, a, w, hsz, hl, hd, hfs, h, hk => by
    unfold drawFs at hk
    split at hk
    case h_2 => exact hk.elim
    rename_i o ho
    unfold fsOk at hfs
    simp only [Bool.and_eq_true] at hfs
    obtain ⟨⟨hri, hfm⟩, hfs⟩ := hfs
    have his := isReady_lt hri
    have heq : ∀ j, listed.getD j false = hasN d j := fun j => by
      rw [hl j]
      cases hh : hasN d j with
      | false => rfl
      | true => simp [hd j hh]
    have hready : i ∈ Region.ready .any ops listed := (isReady_iff (fun j _ => heq j) hsz (fun _ _ _ e _ _ => heq e.on)).2 ⟨his, hri⟩
    unfold freeM at hfm
    rw [ho] at hfm
    simp only [Bool.and_eq_true, List.all_eq_true, List.mem_range] at hfm
    obtain ⟨⟨hmv, hg⟩, hall⟩ := hfm
    obtain ⟨x, hop⟩ : ∃ x, o.op = .move x := by
      unfold isMove at hmv
      split at hmv
      · rename_i x e; exact ⟨x, e⟩
      · cases hmv
    have hv : ∀ w, (execOp a.eval o).run X.P w = .ok (.value (a.eval x)) w := fun w => by simp [execOp, hop]
    have hg : o.guard = none := by cases e : o.guard <;> simp [e] at hg ⊢
    have h1 := awpOp_sound h hk (fun a' w' => wpAny X.P .any ops Q (fuel + is.length) (listed.setIfInBounds i true) a' w') Q (fun v w' ⟨m', fr', L', g1, g2⟩ => drawFs_sound hQ hP hns fuel is (i :: d) _ (by simp [hsz]) (fun j => by
      by_cases e : j = i
      · subst e
        rw [Array.getD_eq_getD_getElem?, Array.getElem?_setIfInBounds_self_of_lt (by omega)]
        simp [hasN, his]
      · rw [getD_set_ne false (Ne.symm e), hl j]
        congr 1
        simp only [hasN, List.any_cons]
        rw [show Nat.beq j i = false by rw [← Bool.not_eq_true, Nat.beq_eq]; exact e, Bool.false_or]) (fun j hj => by
      simp only [hasN, List.any_cons, Bool.or_eq_true] at hj
      rcases hj with hj | hj
      · rw [Nat.eq_of_beq_eq_true hj]; exact his
      · exact hd j hj) hfs g1 g2)
    simp only [Oper.wp, hv, Oper.upon] at h1
    refine wpAny_first ho (fun j oj cs b hj e => ?_) (fun c a w hq => absurd hq (hP c _ w)) (fuel + is.length) listed a w (fun j oj hj hne hun hno => ?_) hready (.inl ⟨by simp [Region.wanted, hg], hv⟩) h1
    · unfold noSels at hns
      simp only [List.all_eq_true, List.mem_range] at hns
      have := hns j (Array.getElem?_eq_some_iff.1 hj).1
      rw [hj] at this
      simp [noSel, e] at this
    · have hjs := (Array.getElem?_eq_some_iff.1 hj).1
      have := hall j hjs
      rw [hj] at this
      simp only [Bool.or_eq_true] at this
      rcases this with e | e | e | e
      · exact absurd (Nat.eq_of_beq_eq_true e) hne
      · rw [← heq j] at e
        rw [Array.getD_eq_getD_getElem?, Array.getElem?_eq_getElem (by omega)] at e hun
        simp only [Option.getD_some] at e hun
        rw [e] at hun; cases hun
      · obtain ⟨ed, he, hb⟩ := Array.any_eq_true'.1 e
        simp only [Bool.and_eq_true] at hb
        exact absurd (Nat.eq_of_beq_eq_true hb.2) (hno ed he hb.1)
      · exact e
theorem regK_sound {id : Nat} {ops : Array Oper} {draw : Bool} {K : Fr → Loc → Prop} {Q : Exit → Act → World → Prop} (h : Rel F Tg pn X.N w0 noSh m fr L a w) (hk : regK X ops draw fr L K)
    (hQ : ∀ m fr L a w, Rel F Tg pn X.N w0 noSh m fr L a w → K fr L → Q .normal a w) (hP : ∀ c a w, ¬ Q (.panic c) a w) : (Code.region id ops draw).wp X.P Q a w := by
  cases draw with
  | true =>
    unfold regK at hk
    simp only at hk
    split at hk
    · obtain ⟨fs, ⟨hm, hf⟩, hk⟩ := hk
      simp only [Bool.and_eq_true] at hf
      have hle := Nat.le_of_ble_eq_true hf.2.2
      refine wp_region_any hm ?_
      have := drawFs_sound hQ hP hf.1 (ops.size - fs.length) fs [] (Array.replicate ops.size false) (by simp) (fun j => by rw [start_none]; simp [hasN]) (fun j hj => by simp [hasN] at hj) hf.2.1 (h.world (Below.draw w (w.drawn + 1))) hk
      rwa [Nat.sub_add_cancel hle] at this
    · exact drawK_sound h hk hQ hP
  | false => exact wp_region_list (awpOps_sound hQ _ h hk)
theorem awp_sound : ∀ (c : Code) (K : Ex → Fr → Loc → Prop) {m : Mp} {fr : Fr} {L : Loc} {a : Act} {w : World}, Rel F Tg pn X.N w0 noSh m fr L a w → awp X c fr L K → c.wp X.P (Conc X F Tg pn w0 K) a w
  | .skip, K, m, fr, L, a, w, h, hk => wp_skip ⟨m, fr, L, h, hk⟩
  | .region id ops draw, K, m, fr, L, a, w, h, hk => by
    simp only [awp] at hk
    split at hk
    · exact regK_sound h hk (fun m fr L a w h k => ⟨m, fr, L, h, k⟩) fun c a w hc => hc
    · obtain ⟨σ, Inv, jf, jl, ⟨s, ρ, hI, hm⟩, hk⟩ := hk
      exact regK_sound (h.ren hm) (hk s hI) (fun m fr L a w h k => ⟨m, fr, L, h, k⟩) fun c a w hc => hc
  | .seq x y, K, m, fr, L, a, w, h, hk => by
    simp only [awp] at hk
    refine wp_seq (wp_mono (awp_sound x _ h hk) fun e a w q => ?_)
    cases e <;> simp only [Conc, Exit.then] at q ⊢
    · obtain ⟨m, fr, L, h, hk⟩ := q
      exact awp_sound y K h hk
    · exact q
    · exact q
  | .cond c x y, K, m, fr, L, a, w, h, hk => by
    simp only [awp] at hk
    have hc := h.ev c
    have hset : ∀ b, evA fr c = .bool b → Rel F Tg pn X.N w0 noSh m (setB fr c b) L a w := fun b hb => by
      cases c <;> try exact h
      exact h.known hb
    split at hk
    · rename_i p hp
      rw [hp] at hc
      simp only [VR] at hc
      replace hk := br_elim hk
      cases p with
      | true => exact wp_cond hc (awp_sound x K (hset _ hp) (hk.1 rfl))
      | false => exact wp_cond hc (awp_sound y K (hset _ hp) (hk.2 rfl))
    · exact hk.elim
  | .block id body, K, m, fr, L, a, w, h, hk => by
    simp only [awp] at hk
    refine wp_block (wp_mono (awp_sound body _ h hk) fun e a w q => ?_)
    cases e <;> simp only [Conc, Exit.inBlock] at q ⊢
    · exact q
    · rename_i j
      obtain ⟨m, fr, L, h, hk⟩ := q
      split at hk
      · rename_i e
        rw [if_pos (Nat.eq_of_beq_eq_true e)]; exact ⟨m, fr, L, h, hk⟩
      · rename_i e
        rw [if_neg (fun e' => by rw [e', Nat.beq_refl] at e; cases e)]; exact ⟨m, fr, L, h, hk⟩
    · exact q
  | .loop body, K, m, fr, L, a, w, h, hk => by
    simp only [awp] at hk
    obtain ⟨σ, Inv, jf, jl, μ, ⟨s, ρ, hI, hm⟩, hround⟩ := hk
    refine wp_loop_nat (fun n a w => ∃ s m, Inv s ∧ μ s = n ∧ Rel F Tg pn X.N w0 noSh m (frOf (jf s)) (locOf (jl s)) a w) ⟨s, _, hI, rfl, h.ren hm⟩ fun n a w ⟨s, m, hI, hn, h⟩ => ?_
    refine wp_mono (awp_sound body _ h (hround s hI)) fun e a w q => ?_
    cases e <;> simp only [Conc, Exit.then] at q ⊢
    · obtain ⟨m', fr', L', h', s', ρ', ⟨hI', hlt⟩, hm'⟩ := q
      exact ⟨_, by omega, s', _, hI', rfl, h'.ren hm'⟩
    all_goals exact q
  | .exit id, K, m, fr, L, a, w, h, hk => wp_exit ⟨m, fr, L, h, hk⟩
  | .ret, K, m, fr, L, a, w, h, hk => wp_ret ⟨m, fr, L, h, hk⟩
  | .rangeFunc .., _, _, _, _, _, _, _, hk => by simp [awp] at hk
  | .scope _, _, _, _, _, _, _, _, hk => by simp [awp] at hk
  | .label _, _, _, _, _, _, _, _, hk => by simp [awp] at hk
  | .goto _, _, _, _, _, _, _, _, hk => by simp [awp] at hk
  | .refuse _, _, _, _, _, _, _, _, hk => by simp [awp] at hk
end
end Go.Bx
