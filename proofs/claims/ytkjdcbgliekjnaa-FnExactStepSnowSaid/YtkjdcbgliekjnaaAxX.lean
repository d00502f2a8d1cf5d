/- The executor: code; functions. -/
import Derived.Test.YtkjdcbgliekjnaaAxE
namespace Go.Ax
open Go.RowKit (Below)

inductive Ex where
  | normal
  | exit (id : Nat)
  | ret

/-- An operation that may write. -/
def awpOp (X : Cx) (o : Oper) (fr : Fr) (L : Loc) (K : Fr → Loc → Prop) : Prop :=
  match o.op with
  | .store T x y => match stB X.P L T (evA fr x) (evA fr y) with
    | some L' => putK X.N fr o.dst .skip fun fr => K fr L'
    | none => False
  | _ => qOp X L o fr fun y os => forceA y fun y => putK X.N fr o.dst y fun fr => adoptK (o.dst.getD 0) L os fun L => K fr L
/-- The operations of a region, in the order of the text. -/
def awpOps (X : Cx) (ops : Array Oper) : List Oper → Fr → Loc → (Fr → Loc → Prop) → Prop
  | [], fr, L, K => K fr L
  | o :: rest, fr, L, K => match o.guard with
    | none => awpOp X o fr L fun fr L => awpOps X ops rest fr L K
    | some (j, want) => match (ops[j]?).bind (·.dst) with
      | some d => match (if d < X.N then fr d else .undef) with
        | .bool b => match want with
          | true => br b (awpOp X o (upd fr d (.bool true)) L fun fr L => awpOps X ops rest fr L K) (putK X.N (upd fr d (.bool false)) o.dst .skip fun fr => awpOps X ops rest fr L K)
          | false => br b (putK X.N (upd fr d (.bool true)) o.dst .skip fun fr => awpOps X ops rest fr L K) (awpOp X o (upd fr d (.bool false)) L fun fr L => awpOps X ops rest fr L K)
        | .skip => putK X.N fr o.dst .skip fun fr => awpOps X ops rest fr L K
        | _ => False
      | none => False
/-- A test's outcome is known in its branches. -/
def setB (fr : Fr) (c : Operand) (b : Bool) : Fr :=
  match c with
  | .tmp t => upd fr t (.bool b)
  | _ => fr
def awp (X : Cx) : Code → Fr → Loc → (Ex → Fr → Loc → Prop) → Prop
  | .skip, fr, L, K => K .normal fr L
  | .region _ ops draw, fr, L, K => match draw with
    | false => awpOps X ops ops.toList fr L (K .normal)
    | true => (pairOk ops = true ∧ X.P.follows .mixedOrders = true) ∧ (match lastOp ops with
      | none => lexD X ops ops.toList fr L (K .normal)
      | some o => lexD X ops (ops.toList.take (ops.size - 1)) fr L fun fr L => awpOp X o fr L (K .normal))
  | .seq a b, fr, L, K => awp X a fr L fun e fr L => match e with
    | .normal => awp X b fr L K
    | e => K e fr L
  | .cond c a b, fr, L, K => match evA fr c with
    | .bool p => br p (awp X a (setB fr c true) L K) (awp X b (setB fr c false) L K)
    | _ => False
  | .block id body, fr, L, K => awp X body fr L fun e fr L => match e with
    | .exit j => if j = id then K .normal fr L else K (.exit j) fr L
    | e => K e fr L
  | .loop body, fr, L, K => ∃ (I : Fr → Loc → Prop) (μ : Fr → Loc → Nat), I fr L ∧ ∀ fr L, I fr L → awp X body fr L fun e fr' L' => match e with
    | .normal => I fr' L' ∧ μ fr' L' < μ fr L
    | e => K e fr' L'
  | .exit id, fr, L, K => K (.exit id) fr L
  | .ret, fr, L, K => K .ret fr L
  | _, _, _, _ => False

section
variable {B B0 N : Nat} {Tg Tg' : AV → Value → Prop} {w0 w w' : World} {m m' mr : Mp} {L L' : Loc} {fr : Fr} {a : Act} {X : Cx}

/-- What a claim on abstract states says of the model's. -/
def Conc (X : Cx) (B : Nat) (Tg : AV → Value → Prop) (w0 : World) (K : Ex → Fr → Loc → Prop) : Exit → Act → World → Prop
  | .normal, a, w => ∃ m fr L, Rel B Tg X.N w0 m fr L a w ∧ K .normal fr L
  | .exit id, a, w => ∃ m fr L, Rel B Tg X.N w0 m fr L a w ∧ K (.exit id) fr L
  | .ret, a, w => ∃ m fr L, Rel B Tg X.N w0 m fr L a w ∧ K .ret fr L
  | _, _, _ => False

theorem awpOp_sound (hG : ∀ f ∈ X.cs, Good X.P X.env f) (h : Rel B Tg X.N w0 m fr L a w) {o : Oper} {K : Fr → Loc → Prop} (hq : awpOp X o fr L K) :
    Yields X.P o a w fun v w' => ∃ m' fr' L', Rel B Tg X.N w0 m' fr' L' (a.put o.dst v) w' ∧ K fr' L' := by
  unfold awpOp at hq
  split at hq
  · rename_i T x y ho
    split at hq
    · rename_i L' hs
      obtain ⟨w', h1, h2⟩ := storeA_sound (P := X.P) h (h.ev x) (h.ev y) hs
      rw [putK_eq] at hq
      refine Yields.skip (w' := w') ?_ ⟨m, _, _, h2.put o.dst (by simp [VR]), hq⟩
      simp [execOp, ho, h1]
    · exact hq.elim
  · simp only [forceA_eq, putK_eq, adoptK_eq] at hq
    obtain ⟨y, os, hK, hy⟩ := qOp_sound hG h Ext.refl (fun _ _ => rfl) hq
    exact hy.mono fun v w' ⟨m', h1, h2⟩ => ⟨m', _, _, h1.put o.dst h2, hK⟩

theorem Rel.setB (h : Rel B Tg X.N w0 m fr L a w) {c : Operand} {b : Bool} (hd : evA fr c = .bool b) : Rel B Tg X.N w0 m (setB fr c b) L a w := by
  cases c <;> try exact h
  exact h.known hd
theorem awpOps_sound (hG : ∀ f ∈ X.cs, Good X.P X.env f) {ops : Array Oper} {Q : Exit → Act → World → Prop} {K : Fr → Loc → Prop} (hQ : ∀ m fr L a w, Rel B Tg X.N w0 m fr L a w → K fr L → Q .normal a w) :
    ∀ (l : List Oper) {m : Mp} {fr : Fr} {L : Loc} {a : Act} {w : World}, Rel B Tg X.N w0 m fr L a w → awpOps X ops l fr L K → wpList X.P ops Q l a w
  | [], m, fr, L, a, w, h, hk => hQ m fr L a w h hk
  | o :: rest, m, fr, L, a, w, h, hk => by
    have hrun : ∀ {fr : Fr}, Rel B Tg X.N w0 m fr L a w → awpOp X o fr L (fun fr L => awpOps X ops rest fr L K) → o.wp X.P a w (wpList X.P ops Q rest) Q := fun h hq =>
      awpOp_sound hG h hq _ Q fun v w' ⟨m', fr', L', h1, h2⟩ => awpOps_sound hG hQ rest h1 h2
    have hskip : ∀ {fr : Fr}, Rel B Tg X.N w0 m fr L a w → awpOps X ops rest (putA X.N fr o.dst .skip) L K → wpList X.P ops Q rest (a.put o.dst Go.undef) w := fun h hq =>
      awpOps_sound hG hQ rest (h.put o.dst (by simp [VR])) hq
    unfold awpOps at hk
    unfold wpList
    split at hk
    · rename_i hg
      rw [if_pos (by simp [Region.wanted, hg])]
      exact .inl (hrun h hk)
    · rename_i j want hg
      split at hk
      · rename_i d hd
        split at hk
        · rename_i b hb
          rw [guard_yes h hg hd hb]
          have hfd : fr d = .bool b := by
            split at hb
            · exact hb
            · cases hb
          cases want <;> simp only [putK_eq] at hk <;> replace hk := br_elim hk <;> cases b
          · exact .inl (hrun (h.known hfd) (hk.2 rfl))
          · rw [if_neg (by simp)]; exact hskip (h.known hfd) (hk.1 rfl)
          · rw [if_neg (by simp)]; exact hskip (h.known hfd) (hk.2 rfl)
          · exact .inl (hrun (h.known hfd) (hk.1 rfl))
        · rename_i hb
          rw [guard_skip h hg hd hb, if_neg (by simp)]
          rw [putK_eq] at hk
          exact hskip h hk
        · exact hk.elim
      · exact hk.elim

theorem exists_least {p : Nat → Prop} (h : ∃ n, p n) : ∃ n, p n ∧ ∀ k, k < n → ¬ p k := by
  obtain ⟨n, hn⟩ := h
  induction n using Nat.strongRecOn with
  | _ n ih =>
    by_cases hk : ∃ k, k < n ∧ p k
    · obtain ⟨k, h1, h2⟩ := hk; exact ih k h1 h2
    · exact ⟨n, hn, fun k h1 h2 => hk ⟨k, h1, h2⟩⟩
open Classical in
/-- The least number at which something holds. -/
noncomputable def least (p : Nat → Prop) : Nat := if h : ∃ n, p n then Classical.choose (exists_least h) else 0
theorem least_spec {p : Nat → Prop} (h : ∃ n, p n) : p (least p) := by
  unfold least; rw [dif_pos h]; exact (Classical.choose_spec (exists_least h)).1
theorem least_le {p : Nat → Prop} {n : Nat} (h : p n) : least p ≤ n := by
  have h' : ∃ n, p n := ⟨n, h⟩
  unfold least; rw [dif_pos h']
  exact Nat.le_of_not_lt fun hlt => (Classical.choose_spec (exists_least h')).2 n hlt h
theorem wp_loop_nat {P : Program} {Q : Exit → Act → World → Prop} {c : Code} (J : Nat → Act → World → Prop) {n : Nat} (h0 : J n a w)
    (round : ∀ n a w, J n a w → c.wp P (Exit.then (fun a' w' => ∃ n', n' < n ∧ J n' a' w') Q) a w) : (Code.loop c).wp P Q a w := by
  refine wp_loop (fun a w => ∃ n, J n a w) (fun a w => least fun n => J n a w) ⟨n, h0⟩ fun a w h => ?_
  refine wp_mono (round _ a w (least_spec h)) fun e a' w' q => ?_
  cases e <;> simp only [Exit.then] at q ⊢
  · obtain ⟨n', h1, h2⟩ := q
    exact ⟨⟨n', h2⟩, Nat.lt_of_le_of_lt (least_le h2) h1⟩
  all_goals exact q
theorem awp_sound (hG : ∀ f ∈ X.cs, Good X.P X.env f) : ∀ (c : Code) (K : Ex → Fr → Loc → Prop) {m : Mp} {fr : Fr} {L : Loc} {a : Act} {w : World}, Rel B Tg X.N w0 m fr L a w → awp X c fr L K → c.wp X.P (Conc X B Tg w0 K) a w
  | .skip, K, m, fr, L, a, w, h, hk => wp_skip ⟨m, fr, L, h, hk⟩
  | .region id ops draw, K, m, fr, L, a, w, h, hk => by
    simp only [awp] at hk
    cases draw with
    | true =>
      obtain ⟨⟨hk1, hk2⟩, hk3⟩ := hk
      split at hk3
      · exact region_sound hG hk2 hk1 h hk3 fun m fr L a w h k => ⟨m, fr, L, h, k⟩
      · rename_i o ho
        exact region_last hG hk2 hk1 h ho hk3 fun m fr L a w h k K' hK' => awpOp_sound hG h k K' _ fun v w' ⟨m', fr', L', h1, h2⟩ => hK' _ _ ⟨m', fr', L', h1, h2⟩
    | false =>
    exact wp_region_list (awpOps_sound hG (fun m fr L a w h k => ⟨m, fr, L, h, k⟩) _ h hk)
  | .seq x y, K, m, fr, L, a, w, h, hk => by
    simp only [awp] at hk
    refine wp_seq (wp_mono (awp_sound hG x _ h hk) fun e a w q => ?_)
    cases e <;> simp only [Conc, Exit.then] at q ⊢
    · obtain ⟨m, fr, L, h, hk⟩ := q
      exact awp_sound hG y K h hk
    · exact q
    · exact q
  | .cond c x y, K, m, fr, L, a, w, h, hk => by
    simp only [awp] at hk
    have hc := h.ev c
    split at hk
    · rename_i p hp
      rw [hp] at hc
      simp only [VR] at hc
      replace hk := br_elim hk
      cases p with
      | true => exact wp_cond hc (awp_sound hG x K (h.setB hp) (hk.1 rfl))
      | false => exact wp_cond hc (awp_sound hG y K (h.setB hp) (hk.2 rfl))
    · exact hk.elim
  | .block id body, K, m, fr, L, a, w, h, hk => by
    simp only [awp] at hk
    refine wp_block (wp_mono (awp_sound hG body _ h hk) fun e a w q => ?_)
    cases e <;> simp only [Conc, Exit.inBlock] at q ⊢
    · exact q
    · rename_i j
      obtain ⟨m, fr, L, h, hk⟩ := q
      split
      · rename_i e; rw [if_pos e] at hk; exact ⟨m, fr, L, h, hk⟩
      · rename_i e; rw [if_neg e] at hk; exact ⟨m, fr, L, h, hk⟩
    · exact q
  | .loop body, K, m, fr, L, a, w, h, hk => by
    simp only [awp] at hk
    obtain ⟨I, μ, h0, hround⟩ := hk
    refine wp_loop_nat (fun n a w => ∃ m fr L, Rel B Tg X.N w0 m fr L a w ∧ I fr L ∧ μ fr L = n) ⟨m, fr, L, h, h0, rfl⟩ fun n a w ⟨m, fr, L, h, hI, hn⟩ => ?_
    refine wp_mono (awp_sound hG body _ h (hround fr L hI)) fun e a w q => ?_
    cases e <;> simp only [Conc, Exit.then] at q ⊢
    · obtain ⟨m', fr', L', h', hI', hlt⟩ := q
      exact ⟨_, by omega, m', fr', L', h', hI', rfl⟩
    all_goals exact q
  | .exit id, K, m, fr, L, a, w, h, hk => wp_exit ⟨m, fr, L, h, hk⟩
  | .ret, K, m, fr, L, a, w, h, hk => wp_ret ⟨m, fr, L, h, hk⟩
  | .rangeFunc .., _, _, _, _, _, _, _, hk => by simp [awp] at hk
  | .scope _, _, _, _, _, _, _, _, hk => by simp [awp] at hk
  | .label _, _, _, _, _, _, _, _, hk => by simp [awp] at hk
  | .goto _, _, _, _, _, _, _, _, hk => by simp [awp] at hk
  | .refuse _, _, _, _, _, _, _, _, hk => by simp [awp] at hk
end
end Go.Ax
