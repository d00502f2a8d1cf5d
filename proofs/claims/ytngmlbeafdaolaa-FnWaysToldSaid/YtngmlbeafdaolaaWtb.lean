/- What each function of this seat does (Wtb). Printed from templates of this seat's own. -/
import Derived.Test.YtngmlbeafdaolaaWta
import Derived.Test.YtngmlbeafdaolaaWt9
namespace Go.Proofs.Ytngmlbeafdaolaa
open Go.Ax Go.Bx
set_option maxRecDepth 8000
set_option linter.unusedSimpArgs false
set_option linter.unusedVariables false

theorem enS_yes {ds : List Int} {v : Nat → Nat} {i : Nat} (h : ds.getD i 0 < 0) : enS ds v (i + 1) = fop .add .f64 (enS ds v i) (fwiden (v i)) := by rw [enS, decide_eq_true h, cond_true]
theorem enS_no {ds : List Int} {v : Nat → Nat} {i : Nat} (h : ¬ ds.getD i 0 < 0) : enS ds v (i + 1) = enS ds v i := by rw [enS, decide_eq_false h, cond_false]
theorem gaEnd_yes {ds : List Int} {v : Nat → Int} {i : Nat} (h : ds.getD i 0 < 0) : gaEnd ds v i + v i = gaEnd ds v (i + 1) := by rw [gaEnd, if_pos h]
theorem gaEnd_no {ds : List Int} {v : Nat → Int} {i : Nat} (h : ¬ ds.getD i 0 < 0) : gaEnd ds v i = gaEnd ds v (i + 1) := by rw [gaEnd, if_neg h, Int.add_zero]
def gI (l : List Int) (k : Nat) : Int := l.getD k 0
def gF (l : List Nat) (k : Nat) : Nat := l.getD k 0
set_option maxHeartbeats 2000000 in
theorem waysWalk {bs cs : List Int} {w v n : Nat} {X rs fl : List Nat} {dl ds cl bl ol lp rd : List Int} {m : Int} (hX : X.length = n) (hn : 0 < n ∧ n ≤ 256) (hrs : rs.length = n) (hdl : dl.length = n) (hds : ds.length = n) (hcl : cl.length = n) (hfl : fl.length = n) (hbl : bl.length = n) (hol : ol.length = n) (hlp : lp.length ≤ 257) (hrd : rd.length ≤ 256)
    (e0 : ∀ t t', Does Try.prog 15 [.sli (.int .u8) bs t, .sli (.int .u8) cs t'] (.bool false))
    (a1 : ∀ t, Does Try.prog 16 [.sli (.int .u8) bs t] (.agg [.int .i64 w, .int .i64 v, .own 0 .f32 X]))
    (a2 : ∀ t, Does Try.prog 27 [.sli (.int .u8) cs t, .int .i64 n] (.own 0 .f32 rs))
    (a3 : ∀ t, Does Try.prog 28 [.agg [.int .i64 w, .int .i64 v, .sli .f32 X t]] (.tup [.own 0 (.int .i64) dl, .bool true]))
    (a4 : ∀ t, Does Try.prog 9 [.agg [.int .i64 w, .int .i64 v, .sli .f32 X t]] (.tup [.own 0 (.int .i64) ds, .bool true]))
    (a5 : ∀ t t', Does Try.prog 22 [.agg [.int .i64 w, .int .i64 v, .sli .f32 X t], .sli (.int .i64) dl t'] (.bool true))
    (a6 : ∀ i, i < n → ∃ f, (∀ t, Does Try.prog 29 [.agg [.int .i64 w, .int .i64 v, .sli .f32 X t], .int .i64 (i : Int)] (.tup [.int .i64 (dl.getD i 0), .flt .f32 f, .bool true])) ∧ fcmp .lss .f32 f (canon .f32 0) = false ∧ ((0 ≤ dl.getD i 0 ∧ dl.getD i 0 < n ∧ fcmp .geq .f32 (X.getD (dl.getD i 0).toNat 0) (X.getD i 0) = false) ∨ (dl.getD i 0 = -1 ∧ fcmp .neq .f32 f (canon .f32 0) = false)))
    (a7 : ∀ t t', Does Try.prog 30 [.agg [.int .i64 w, .int .i64 v, .sli .f32 X t], .sli (.int .i64) ds t'] (.tup [.own 0 (.int .i64) cl, .bool true]))
    (a8 : ∀ t t' t2, Does Try.prog 31 [.agg [.int .i64 w, .int .i64 v, .sli .f32 X t], .sli (.int .i64) ds t', .sli .f32 rs t2] (.tup [.own 0 .f32 fl, .bool true]))
    (a9 : ∀ t t', Does Try.prog 32 [.agg [.int .i64 w, .int .i64 v, .sli .f32 X t], .sli (.int .i64) ds t'] (.tup [.own 0 (.int .i64) bl, .int .i64 m, .bool true]))
    (a10 : ∀ t t', Does Try.prog 33 [.agg [.int .i64 w, .int .i64 v, .sli .f32 X t], .sli (.int .i64) ds t'] (.tup [.own 0 (.int .i64) ol, .bool true]))
    (a11 : ∀ t t', Does Try.prog 34 [.agg [.int .i64 w, .int .i64 v, .sli .f32 X t], .sli (.int .i64) ds t'] (.tup [.own 0 (.int .i64) lp, .bool true]))
    (a12 : ∀ t t', Does Try.prog 35 [.agg [.int .i64 w, .int .i64 v, .sli .f32 X t], .sli (.int .i64) ds t'] (.tup [.own 0 (.int .i64) rd, .bool true]))
    (a13 : ∀ i, i < n → ∃ p : List Int, (∀ t t', Does Try.prog 23 [.agg [.int .i64 w, .int .i64 v, .sli .f32 X t], .sli (.int .i64) ds t', .int .i64 (i : Int)] (.tup [.own 0 (.int .i64) p, .bool true])) ∧ p.length ≤ lp.length)
    (w1 : ∀ i, i < n → ds.getD i 0 < 0 ∨ (0 ≤ ds.getD i 0 ∧ ds.getD i 0 < n ∧ cl.getD i 0 < cl.getD (ds.getD i 0).toNat 0 ∧ bl.getD (ds.getD i 0).toNat 0 = bl.getD i 0 ∧ ol.getD i 0 ≤ ol.getD (ds.getD i 0).toNat 0))
    (w2 : ∀ i, i < n → 1 ≤ cl.getD i 0 ∧ cl.getD i 0 ≤ 65792 ∧ 1 ≤ ol.getD i 0 ∧ (cl.getD i 0 = 1 → ol.getD i 0 = 1))
    (E1 : gaEnd ds (fun _ => 1) n = m) (E2 : gaEnd ds (gI cl) n = n) (E3 : fcmp .gtr .f64 (r8G (enS ds (gF fl) n) (flS' rs n)) (canon .f64 4562254508917369340) = false) (E4 : bl.getD 0 0 = 0)
    (r1 : m = 1 → rd = []) (r2 : m ≠ 1 → 0 < rd.length) (r3 : ∀ k, k < rd.length → 0 ≤ rd.getD k 0 ∧ rd.getD k 0 < n) (r4 : ∀ k, k + 1 < rd.length → rd.getD k 0 < rd.getD (k + 1) 0) :
    Does Try.prog 5 [.sli (.int .u8) bs .undef, .sli (.int .u8) cs .undef] (.bool true) := by
  have fin1 : ∀ {b : Bool}, b = false → b = true → False := fun h g => by rw [h] at g; cases g
  subst hX
  refine Does.of_awp (X := cx 390) Try.func5 rfl (by kernel_rfl) rfl (by simp [cx]) [] rfl ?_
  conv => whnf
  repeat (first
    | (refine ⟨⟨by kernel_rfl, by kernel_rfl⟩, ?_⟩; conv => whnf)
    | (refine And.intro (by first | omega | (simp; done) | (simp; omega)) ?_; conv => whnf)
    | (refine Or.inl (And.intro (by omega) ?_); conv => whnf)
    | (refine Exists.intro _ (And.intro (e0 _ _) ?_); conv => whnf)
    | (refine Exists.intro _ (And.intro (a1 _) ?_); conv => whnf)
    | (refine Exists.intro _ (And.intro (a2 _) ?_); conv => whnf)
    | (refine Exists.intro _ (And.intro (a3 _) ?_); conv => whnf)
    | (refine Exists.intro _ (And.intro (a4 _) ?_); conv => whnf)
    | (refine Exists.intro _ (And.intro (a5 _ _) ?_); conv => whnf))
  (refine br_intro (fun x1 => ?_) (fun x1 => ?_) <;> (conv => whnf))
  · exfalso; simp at x1 <;> omega
  repeat (first
    | (refine ⟨⟨by kernel_rfl, by kernel_rfl⟩, ?_⟩; conv => whnf)
    | (refine And.intro (by first | omega | (simp; done) | (simp; omega)) ?_; conv => whnf)
    | (refine Or.inl (And.intro (by omega) ?_); conv => whnf))
  refine ⟨Nat, fun i => i ≤ X.length, fun i => [(5, .loc 20 0), (6, .int .i64 X.length), (7, .osl 188), (8, .osl 200), (10, .osl 220), (12, .int .i64 i)], fun i => [(20, .av [.int .i64 w, .int .i64 v, .osl 164]), (164, .tab .f32 X), (188, .tab .f32 rs), (200, .tab (.int .i64) dl), (220, .tab (.int .i64) ds)], fun i => X.length - i, ⟨0, id, Nat.zero_le _, rfl, ⟨rfl, rfl, rfl, rfl, rfl, rfl, trivial⟩, ⟨rfl, rfl, rfl, rfl, rfl, trivial⟩⟩, fun i hi => ?_⟩
  conv => whnf
  (refine br_intro (fun h => ?_) (fun h => ?_) <;> (conv => whnf))
  · have h : i < X.length := by simp at h; omega
    obtain ⟨f, ef, t1, t2⟩ := a6 i h
    repeat (first
      | (refine ⟨⟨by kernel_rfl, by kernel_rfl⟩, ?_⟩; conv => whnf)
      | (refine And.intro (by first | omega | (simp; done) | (simp; omega)) ?_; conv => whnf)
      | (refine Or.inl (And.intro (by omega) ?_); conv => whnf)
      | (refine Exists.intro _ (And.intro (ef _) ?_); conv => whnf))
    (refine br_intro (fun y1 => ?_) (fun y1 => ?_) <;> (conv => whnf))
    · exfalso; simp at y1
    repeat (first
      | (refine ⟨⟨by kernel_rfl, by kernel_rfl⟩, ?_⟩; conv => whnf)
      | (refine And.intro (by first | omega | (simp; done) | (simp; omega)) ?_; conv => whnf)
      | (refine Or.inl (And.intro (by omega) ?_); conv => whnf))
    (refine br_intro (fun y2 => ?_) (fun y2 => ?_) <;> (conv => whnf))
    · exact (fin1 t1 y2).elim
    repeat (first
      | (refine ⟨⟨by kernel_rfl, by kernel_rfl⟩, ?_⟩; conv => whnf)
      | (refine And.intro (by first | omega | (simp; done) | (simp; omega)) ?_; conv => whnf)
      | (refine Or.inl (And.intro (by omega) ?_); conv => whnf))
    (refine br_intro (fun y3 => ?_) (fun y3 => ?_) <;> (conv => whnf))
    · have y3 : 0 ≤ dl.getD i 0 := by simpa using y3
      have t3 : 0 ≤ dl.getD i 0 ∧ dl.getD i 0 < X.length ∧ fcmp .geq .f32 (X.getD (dl.getD i 0).toNat 0) (X.getD i 0) = false := by
        rcases t2 with t2 | t2
        · exact t2
        · omega
      obtain ⟨t3, t4, t5⟩ := t3
      have t6 := And.intro t3 t4
      simp only [List.getD_eq_getElem?_getD] at t6
      repeat (first
        | (refine ⟨⟨by kernel_rfl, by kernel_rfl⟩, ?_⟩; conv => whnf)
        | (refine And.intro (by first | omega | (simp; done) | (simp; omega)) ?_; conv => whnf)
        | (refine Or.inl (And.intro (by omega) ?_); conv => whnf))
      (refine br_intro (fun y4 => ?_) (fun y4 => ?_) <;> (conv => whnf))
      · exact (fin1 t5 y4).elim
      repeat (first
        | (refine ⟨⟨by kernel_rfl, by kernel_rfl⟩, ?_⟩; conv => whnf)
        | (refine And.intro (by first | omega | (simp; done) | (simp; omega)) ?_; conv => whnf)
        | (refine Or.inl (And.intro (by omega) ?_); conv => whnf))
      (refine br_intro (fun y5 => ?_) (fun y5 => ?_) <;> (conv => whnf))
      · exfalso; simp at y5; simp at y3; omega
      repeat (first
        | (refine ⟨⟨by kernel_rfl, by kernel_rfl⟩, ?_⟩; conv => whnf)
        | (refine And.intro (by first | omega | (simp; done) | (simp; omega)) ?_; conv => whnf)
        | (refine Or.inl (And.intro (by omega) ?_); conv => whnf))
      refine ⟨i + 1, id, ⟨h, by dsimp only; omega⟩, rfl, ⟨rfl, rfl, rfl, rfl, rfl, rfl, trivial⟩, ⟨rfl, rfl, rfl, rfl, rfl, trivial⟩⟩
    · have y3 : ¬ 0 ≤ dl.getD i 0 := by simpa using y3
      have t3 : fcmp .neq .f32 f (canon .f32 0) = false := by
        rcases t2 with t2 | t2
        · exact absurd t2.1 y3
        · exact t2.2
      repeat (first
        | (refine ⟨⟨by kernel_rfl, by kernel_rfl⟩, ?_⟩; conv => whnf)
        | (refine And.intro (by first | omega | (simp; done) | (simp; omega)) ?_; conv => whnf)
        | (refine Or.inl (And.intro (by omega) ?_); conv => whnf))
      (refine br_intro (fun y4 => ?_) (fun y4 => ?_) <;> (conv => whnf))
      · repeat (first
          | (refine ⟨⟨by kernel_rfl, by kernel_rfl⟩, ?_⟩; conv => whnf)
          | (refine And.intro (by first | omega | (simp; done) | (simp; omega)) ?_; conv => whnf)
          | (refine Or.inl (And.intro (by omega) ?_); conv => whnf))
        (refine br_intro (fun y5 => ?_) (fun y5 => ?_) <;> (conv => whnf))
        · exact (fin1 t3 y5).elim
        repeat (first
          | (refine ⟨⟨by kernel_rfl, by kernel_rfl⟩, ?_⟩; conv => whnf)
          | (refine And.intro (by first | omega | (simp; done) | (simp; omega)) ?_; conv => whnf)
          | (refine Or.inl (And.intro (by omega) ?_); conv => whnf))
        refine ⟨i + 1, id, ⟨h, by dsimp only; omega⟩, rfl, ⟨rfl, rfl, rfl, rfl, rfl, rfl, trivial⟩, ⟨rfl, rfl, rfl, rfl, rfl, trivial⟩⟩
      · exfalso; simp at y4; simp at y3; omega
  have h : i = X.length := by simp at h; omega
  subst h
  as_aux_lemma =>
    repeat (first
      | (refine ⟨⟨by kernel_rfl, by kernel_rfl⟩, ?_⟩; conv => whnf)
      | (refine And.intro (by first | omega | (simp; done) | (simp; omega)) ?_; conv => whnf)
      | (refine Or.inl (And.intro (by omega) ?_); conv => whnf)
      | (refine Exists.intro _ (And.intro (a7 _ _) ?_); conv => whnf)
      | (refine Exists.intro _ (And.intro (a8 _ _ _) ?_); conv => whnf)
      | (refine Exists.intro _ (And.intro (a9 _ _) ?_); conv => whnf)
      | (refine Exists.intro _ (And.intro (a10 _ _) ?_); conv => whnf)
      | (refine Exists.intro _ (And.intro (a11 _ _) ?_); conv => whnf)
      | (refine Exists.intro _ (And.intro (a12 _ _) ?_); conv => whnf))
    (refine br_intro (fun x2 => ?_) (fun x2 => ?_) <;> (conv => whnf))
    · exfalso; simp at x2 <;> omega
    repeat (first
      | (refine ⟨⟨by kernel_rfl, by kernel_rfl⟩, ?_⟩; conv => whnf)
      | (refine And.intro (by first | omega | (simp; done) | (simp; omega)) ?_; conv => whnf)
      | (refine Or.inl (And.intro (by omega) ?_); conv => whnf))
    (refine br_intro (fun x3 => ?_) (fun x3 => ?_) <;> (conv => whnf))
    · exfalso; simp at x3 <;> omega
    repeat (first
      | (refine ⟨⟨by kernel_rfl, by kernel_rfl⟩, ?_⟩; conv => whnf)
      | (refine And.intro (by first | omega | (simp; done) | (simp; omega)) ?_; conv => whnf)
      | (refine Or.inl (And.intro (by omega) ?_); conv => whnf))
    (refine br_intro (fun x4 => ?_) (fun x4 => ?_) <;> (conv => whnf))
    · exfalso; simp at x4 <;> omega
    repeat (first
      | (refine ⟨⟨by kernel_rfl, by kernel_rfl⟩, ?_⟩; conv => whnf)
      | (refine And.intro (by first | omega | (simp; done) | (simp; omega)) ?_; conv => whnf)
      | (refine Or.inl (And.intro (by omega) ?_); conv => whnf))
    (refine br_intro (fun x5 => ?_) (fun x5 => ?_) <;> (conv => whnf))
    · exfalso; simp at x5 <;> omega
    repeat (first
      | (refine ⟨⟨by kernel_rfl, by kernel_rfl⟩, ?_⟩; conv => whnf)
      | (refine And.intro (by first | omega | (simp; done) | (simp; omega)) ?_; conv => whnf)
      | (refine Or.inl (And.intro (by omega) ?_); conv => whnf))
    refine ⟨Nat, fun i => i ≤ X.length, fun i => [(5, .loc 20 0), (6, .int .i64 X.length), (7, .osl 188), (10, .osl 220), (16, .osl 520), (18, .osl 548), (20, .osl 572), (21, .int .i64 m), (23, .osl 600), (25, .osl 624), (27, .osl 648), (29, .int .i64 (gaEnd ds (fun _ => 1) i)), (30, .int .i64 (gaEnd ds (gI cl) i)), (31, .flt .f64 (enS ds (gF fl) i)), (32, .flt .f64 (flS' rs i)), (33, .int .i64 i)], fun i => [(20, .av [.int .i64 w, .int .i64 v, .osl 164]), (164, .tab .f32 X), (188, .tab .f32 rs), (220, .tab (.int .i64) ds), (520, .tab (.int .i64) cl), (548, .tab .f32 fl), (572, .tab (.int .i64) bl), (600, .tab (.int .i64) ol), (624, .tab (.int .i64) lp), (648, .tab (.int .i64) rd)], fun i => X.length - i, ⟨0, id, Nat.zero_le _, rfl, ⟨rfl, rfl, rfl, rfl, rfl, rfl, rfl, rfl, rfl, rfl, rfl, rfl, rfl, rfl, rfl, rfl, trivial⟩, ⟨rfl, rfl, rfl, rfl, rfl, rfl, rfl, rfl, rfl, rfl, trivial⟩⟩, fun i hi => ?_⟩
    dsimp only at hi
    have b1 := gaEnd_bnd (ds := ds) (f := fun _ => 1) (B := 1) (by omega) i fun _ _ => ⟨by decide, by decide⟩
    have b2 := gaEnd_bnd (ds := ds) (f := gI cl) (B := 65792) (by omega) i fun k hk => by
      have := w2 k (by omega)
      exact ⟨by show 0 ≤ cl.getD k 0; omega, by show cl.getD k 0 ≤ 65792; omega⟩
    conv => whnf
    (refine br_intro (fun h => ?_) (fun h => ?_) <;> (conv => whnf))
    · have h : i < X.length := by simp at h; omega
      obtain ⟨q1, q2, q3, q4⟩ := w2 i h
      have e4 : fop .add .f64 (flS' rs i) (fwiden (rs.getD i 0)) = flS' rs (i + 1) := rfl
      obtain ⟨p, ep, lpp⟩ := a13 i h
      repeat (first
        | (refine ⟨⟨by kernel_rfl, by kernel_rfl⟩, ?_⟩; conv => whnf)
        | (refine And.intro (by first | omega | (simp; done) | (simp; omega)) ?_; conv => whnf)
        | (refine Or.inl (And.intro (by omega) ?_); conv => whnf))
      (refine br_intro (fun z1 => ?_) (fun z1 => ?_) <;> (conv => whnf))
      · have z1 : ds.getD i 0 < 0 := by simpa using z1
        have e1 : gaEnd ds (fun _ => 1) i + 1 = gaEnd ds (fun _ => 1) (i + 1) := gaEnd_yes (v := fun _ => 1) z1
        have e2 : gaEnd ds (gI cl) i + cl.getD i 0 = gaEnd ds (gI cl) (i + 1) := gaEnd_yes (v := gI cl) z1
        have e3 : fop .add .f64 (enS ds (gF fl) i) (fwiden (fl.getD i 0)) = enS ds (gF fl) (i + 1) := (enS_yes (v := gF fl) z1).symm
        have q1' := q1
        have q2' := q2
        simp only [List.getD_eq_getElem?_getD] at q1' q2'
        repeat (first
          | (refine ⟨⟨by kernel_rfl, by kernel_rfl⟩, ?_⟩; conv => whnf)
          | (refine And.intro (by first | omega | (simp; done) | (simp; omega)) ?_; conv => whnf)
          | (refine Or.inl (And.intro (by omega) ?_); conv => whnf)
          | (refine Exists.intro _ (And.intro (ep _ _) ?_); conv => whnf))
        (refine br_intro (fun c1 => ?_) (fun c1 => ?_) <;> (conv => whnf))
        · exfalso; simp at c1; omega
        repeat (first
          | (refine ⟨⟨by kernel_rfl, by kernel_rfl⟩, ?_⟩; conv => whnf)
          | (refine And.intro (by first | omega | (simp; done) | (simp; omega)) ?_; conv => whnf)
          | (refine Or.inl (And.intro (by omega) ?_); conv => whnf))
        (refine br_intro (fun c2 => ?_) (fun c2 => ?_) <;> (conv => whnf))
        · exfalso
          have c2 : cl.getD i 0 < 1 := by simpa using c2
          omega
        repeat (first
          | (refine ⟨⟨by kernel_rfl, by kernel_rfl⟩, ?_⟩; conv => whnf)
          | (refine And.intro (by first | omega | (simp; done) | (simp; omega)) ?_; conv => whnf)
          | (refine Or.inl (And.intro (by omega) ?_); conv => whnf))
        (refine br_intro (fun c3 => ?_) (fun c3 => ?_) <;> (conv => whnf))
        · exfalso
          have c3 : ol.getD i 0 < 1 := by simpa using c3
          omega
        repeat (first
          | (refine ⟨⟨by kernel_rfl, by kernel_rfl⟩, ?_⟩; conv => whnf)
          | (refine And.intro (by first | omega | (simp; done) | (simp; omega)) ?_; conv => whnf)
          | (refine Or.inl (And.intro (by omega) ?_); conv => whnf))
        (refine br_intro (fun c4 => ?_) (fun c4 => ?_) <;> (conv => whnf))
        · have c4 : cl.getD i 0 = 1 := by simpa using c4
          repeat (first
            | (refine ⟨⟨by kernel_rfl, by kernel_rfl⟩, ?_⟩; conv => whnf)
            | (refine And.intro (by first | omega | (simp; done) | (simp; omega)) ?_; conv => whnf)
            | (refine Or.inl (And.intro (by omega) ?_); conv => whnf))
          (refine br_intro (fun c5 => ?_) (fun c5 => ?_) <;> (conv => whnf))
          · exfalso
            have c5 : ¬ ol.getD i 0 = 1 := by simpa using c5
            exact c5 (q4 c4)
          repeat (first
            | (refine ⟨⟨by kernel_rfl, by kernel_rfl⟩, ?_⟩; conv => whnf)
            | (refine And.intro (by first | omega | (simp; done) | (simp; omega)) ?_; conv => whnf)
            | (refine Or.inl (And.intro (by omega) ?_); conv => whnf))
          refine ⟨i + 1, id, ⟨h, by dsimp only; omega⟩, rfl, ⟨rfl, rfl, rfl, rfl, rfl, rfl, rfl, rfl, rfl, rfl, rfl, congrArg (AV.int .i64) e1, congrArg (AV.int .i64) e2, congrArg (AV.flt .f64) e3, congrArg (AV.flt .f64) e4, rfl, trivial⟩, ⟨rfl, rfl, rfl, rfl, rfl, rfl, rfl, rfl, rfl, rfl, trivial⟩⟩
        · repeat (first
            | (refine ⟨⟨by kernel_rfl, by kernel_rfl⟩, ?_⟩; conv => whnf)
            | (refine And.intro (by first | omega | (simp; done) | (simp; omega)) ?_; conv => whnf)
            | (refine Or.inl (And.intro (by omega) ?_); conv => whnf))
          refine ⟨i + 1, id, ⟨h, by dsimp only; omega⟩, rfl, ⟨rfl, rfl, rfl, rfl, rfl, rfl, rfl, rfl, rfl, rfl, rfl, congrArg (AV.int .i64) e1, congrArg (AV.int .i64) e2, congrArg (AV.flt .f64) e3, congrArg (AV.flt .f64) e4, rfl, trivial⟩, ⟨rfl, rfl, rfl, rfl, rfl, rfl, rfl, rfl, rfl, rfl, trivial⟩⟩
      · have z1 : ¬ ds.getD i 0 < 0 := by simpa using z1
        have e1 : gaEnd ds (fun _ => 1) i = gaEnd ds (fun _ => 1) (i + 1) := gaEnd_no (v := fun _ => 1) z1
        have e2 : gaEnd ds (gI cl) i = gaEnd ds (gI cl) (i + 1) := gaEnd_no (v := gI cl) z1
        have e3 : enS ds (gF fl) i = enS ds (gF fl) (i + 1) := (enS_no (v := gF fl) z1).symm
        obtain ⟨p1, p2, p3, p4, p5⟩ : 0 ≤ ds.getD i 0 ∧ ds.getD i 0 < X.length ∧ cl.getD i 0 < cl.getD (ds.getD i 0).toNat 0 ∧ bl.getD (ds.getD i 0).toNat 0 = bl.getD i 0 ∧ ol.getD i 0 ≤ ol.getD (ds.getD i 0).toNat 0 := by
          rcases w1 i h with g | g
          · exact absurd g z1
          · exact g
        have p1' := p1
        have p2' := p2
        simp only [List.getD_eq_getElem?_getD] at p1' p2'
        repeat (first
          | (refine ⟨⟨by kernel_rfl, by kernel_rfl⟩, ?_⟩; conv => whnf)
          | (refine And.intro (by first | omega | (simp; done) | (simp; omega)) ?_; conv => whnf)
          | (refine Or.inl (And.intro (by omega) ?_); conv => whnf))
        (refine br_intro (fun d1 => ?_) (fun d1 => ?_) <;> (conv => whnf))
        · exfalso
          have d1 : cl.getD (ds.getD i 0).toNat 0 ≤ cl.getD i 0 := by simpa using d1
          omega
        repeat (first
          | (refine ⟨⟨by kernel_rfl, by kernel_rfl⟩, ?_⟩; conv => whnf)
          | (refine And.intro (by first | omega | (simp; done) | (simp; omega)) ?_; conv => whnf)
          | (refine Or.inl (And.intro (by omega) ?_); conv => whnf))
        (refine br_intro (fun d2 => ?_) (fun d2 => ?_) <;> (conv => whnf))
        · exfalso
          have d2 : ¬ bl.getD (ds.getD i 0).toNat 0 = bl.getD i 0 := by simpa using d2
          exact d2 p4
        repeat (first
          | (refine ⟨⟨by kernel_rfl, by kernel_rfl⟩, ?_⟩; conv => whnf)
          | (refine And.intro (by first | omega | (simp; done) | (simp; omega)) ?_; conv => whnf)
          | (refine Or.inl (And.intro (by omega) ?_); conv => whnf))
        (refine br_intro (fun d3 => ?_) (fun d3 => ?_) <;> (conv => whnf))
        · exfalso
          have d3 : ol.getD (ds.getD i 0).toNat 0 < ol.getD i 0 := by simpa using d3
          omega
        repeat (first
          | (refine ⟨⟨by kernel_rfl, by kernel_rfl⟩, ?_⟩; conv => whnf)
          | (refine And.intro (by first | omega | (simp; done) | (simp; omega)) ?_; conv => whnf)
          | (refine Or.inl (And.intro (by omega) ?_); conv => whnf)
          | (refine Exists.intro _ (And.intro (ep _ _) ?_); conv => whnf))
        (refine br_intro (fun c1 => ?_) (fun c1 => ?_) <;> (conv => whnf))
        · exfalso; simp at c1; omega
        repeat (first
          | (refine ⟨⟨by kernel_rfl, by kernel_rfl⟩, ?_⟩; conv => whnf)
          | (refine And.intro (by first | omega | (simp; done) | (simp; omega)) ?_; conv => whnf)
          | (refine Or.inl (And.intro (by omega) ?_); conv => whnf))
        (refine br_intro (fun c2 => ?_) (fun c2 => ?_) <;> (conv => whnf))
        · exfalso
          have c2 : cl.getD i 0 < 1 := by simpa using c2
          omega
        repeat (first
          | (refine ⟨⟨by kernel_rfl, by kernel_rfl⟩, ?_⟩; conv => whnf)
          | (refine And.intro (by first | omega | (simp; done) | (simp; omega)) ?_; conv => whnf)
          | (refine Or.inl (And.intro (by omega) ?_); conv => whnf))
        (refine br_intro (fun c3 => ?_) (fun c3 => ?_) <;> (conv => whnf))
        · exfalso
          have c3 : ol.getD i 0 < 1 := by simpa using c3
          omega
        repeat (first
          | (refine ⟨⟨by kernel_rfl, by kernel_rfl⟩, ?_⟩; conv => whnf)
          | (refine And.intro (by first | omega | (simp; done) | (simp; omega)) ?_; conv => whnf)
          | (refine Or.inl (And.intro (by omega) ?_); conv => whnf))
        (refine br_intro (fun c4 => ?_) (fun c4 => ?_) <;> (conv => whnf))
        · have c4 : cl.getD i 0 = 1 := by simpa using c4
          repeat (first
            | (refine ⟨⟨by kernel_rfl, by kernel_rfl⟩, ?_⟩; conv => whnf)
            | (refine And.intro (by first | omega | (simp; done) | (simp; omega)) ?_; conv => whnf)
            | (refine Or.inl (And.intro (by omega) ?_); conv => whnf))
          (refine br_intro (fun c5 => ?_) (fun c5 => ?_) <;> (conv => whnf))
          · exfalso
            have c5 : ¬ ol.getD i 0 = 1 := by simpa using c5
            exact c5 (q4 c4)
          repeat (first
            | (refine ⟨⟨by kernel_rfl, by kernel_rfl⟩, ?_⟩; conv => whnf)
            | (refine And.intro (by first | omega | (simp; done) | (simp; omega)) ?_; conv => whnf)
            | (refine Or.inl (And.intro (by omega) ?_); conv => whnf))
          refine ⟨i + 1, id, ⟨h, by dsimp only; omega⟩, rfl, ⟨rfl, rfl, rfl, rfl, rfl, rfl, rfl, rfl, rfl, rfl, rfl, congrArg (AV.int .i64) e1, congrArg (AV.int .i64) e2, congrArg (AV.flt .f64) e3, congrArg (AV.flt .f64) e4, rfl, trivial⟩, ⟨rfl, rfl, rfl, rfl, rfl, rfl, rfl, rfl, rfl, rfl, trivial⟩⟩
        · repeat (first
            | (refine ⟨⟨by kernel_rfl, by kernel_rfl⟩, ?_⟩; conv => whnf)
            | (refine And.intro (by first | omega | (simp; done) | (simp; omega)) ?_; conv => whnf)
            | (refine Or.inl (And.intro (by omega) ?_); conv => whnf))
          refine ⟨i + 1, id, ⟨h, by dsimp only; omega⟩, rfl, ⟨rfl, rfl, rfl, rfl, rfl, rfl, rfl, rfl, rfl, rfl, rfl, congrArg (AV.int .i64) e1, congrArg (AV.int .i64) e2, congrArg (AV.flt .f64) e3, congrArg (AV.flt .f64) e4, rfl, trivial⟩, ⟨rfl, rfl, rfl, rfl, rfl, rfl, rfl, rfl, rfl, rfl, trivial⟩⟩
    · have h : i = X.length := by simp at h; omega
      subst h
      as_aux_lemma =>
        repeat (first
          | (refine ⟨⟨by kernel_rfl, by kernel_rfl⟩, ?_⟩; conv => whnf)
          | (refine And.intro (by first | omega | (simp; done) | (simp; omega)) ?_; conv => whnf)
          | (refine Or.inl (And.intro (by omega) ?_); conv => whnf)
          | (refine Exists.intro _ (And.intro (lR8Gap) ?_); conv => whnf))
        (refine br_intro (fun f1 => ?_) (fun f1 => ?_) <;> (conv => whnf))
        · exfalso; simp [E1] at f1
        repeat (first
          | (refine ⟨⟨by kernel_rfl, by kernel_rfl⟩, ?_⟩; conv => whnf)
          | (refine And.intro (by first | omega | (simp; done) | (simp; omega)) ?_; conv => whnf)
          | (refine Or.inl (And.intro (by omega) ?_); conv => whnf)
          | (refine Exists.intro _ (And.intro (lR8Gap) ?_); conv => whnf))
        (refine br_intro (fun f2 => ?_) (fun f2 => ?_) <;> (conv => whnf))
        · exfalso; simp [E2] at f2
        repeat (first
          | (refine ⟨⟨by kernel_rfl, by kernel_rfl⟩, ?_⟩; conv => whnf)
          | (refine And.intro (by first | omega | (simp; done) | (simp; omega)) ?_; conv => whnf)
          | (refine Or.inl (And.intro (by omega) ?_); conv => whnf)
          | (refine Exists.intro _ (And.intro (lR8Gap) ?_); conv => whnf))
        (refine br_intro (fun f3 => ?_) (fun f3 => ?_) <;> (conv => whnf))
        · exact (fin1 E3 f3).elim
        repeat (first
          | (refine ⟨⟨by kernel_rfl, by kernel_rfl⟩, ?_⟩; conv => whnf)
          | (refine And.intro (by first | omega | (simp; done) | (simp; omega)) ?_; conv => whnf)
          | (refine Or.inl (And.intro (by omega) ?_); conv => whnf))
        (refine br_intro (fun f4 => ?_) (fun f4 => ?_) <;> (conv => whnf))
        · exfalso
          have f4 : ¬ bl.getD 0 0 = 0 := by simpa using f4
          exact f4 E4
        repeat (first
          | (refine ⟨⟨by kernel_rfl, by kernel_rfl⟩, ?_⟩; conv => whnf)
          | (refine And.intro (by first | omega | (simp; done) | (simp; omega)) ?_; conv => whnf)
          | (refine Or.inl (And.intro (by omega) ?_); conv => whnf))
        (refine br_intro (fun f5 => ?_) (fun f5 => ?_) <;> (conv => whnf))
        · have f5 : m = 1 := by simpa using f5
          have e := r1 f5
          subst e
          repeat (first
            | (refine ⟨⟨by kernel_rfl, by kernel_rfl⟩, ?_⟩; conv => whnf)
            | (refine And.intro (by first | omega | (simp; done) | (simp; omega)) ?_; conv => whnf)
            | (refine Or.inl (And.intro (by omega) ?_); conv => whnf))
          all_goals (try (conv => whnf))
          all_goals (repeat' (first | exact True.intro | (refine And.intro ?_ ?_ <;> (conv => whnf))))
          all_goals (first | rfl | (simp_all []; done) | (simp only [cond_true, cond_false, Bool.and_true, Bool.true_and, Bool.and_false, Bool.false_and]; rfl) | (simp_all []; omega))
        have f5 : m ≠ 1 := by simpa using f5
        have r2 := r2 f5
        repeat (first
          | (refine ⟨⟨by kernel_rfl, by kernel_rfl⟩, ?_⟩; conv => whnf)
          | (refine And.intro (by first | omega | (simp; done) | (simp; omega)) ?_; conv => whnf)
          | (refine Or.inl (And.intro (by omega) ?_); conv => whnf))
        refine ⟨Nat, fun k => k ≤ rd.length, fun k => [(6, .int .i64 X.length), (27, .osl 648), (36, .int .i64 k)], fun k => [(648, .tab (.int .i64) rd)], fun k => rd.length - k, ⟨0, id, Nat.zero_le _, rfl, ⟨rfl, rfl, rfl, trivial⟩, ⟨rfl, trivial⟩⟩, fun k hk => ?_⟩
        conv => whnf
        (refine br_intro (fun g1 => ?_) (fun g1 => ?_) <;> (conv => whnf))
        · have g1 : k < rd.length := by simp at g1; omega
          obtain ⟨s1, s2⟩ := r3 k g1
          repeat (first
            | (refine ⟨⟨by kernel_rfl, by kernel_rfl⟩, ?_⟩; conv => whnf)
            | (refine And.intro (by first | omega | (simp; done) | (simp; omega)) ?_; conv => whnf)
            | (refine Or.inl (And.intro (by omega) ?_); conv => whnf))
          (refine br_intro (fun g2 => ?_) (fun g2 => ?_) <;> (conv => whnf))
          · exfalso
            have g2 : rd.getD k 0 < 0 := by simpa using g2
            omega
          repeat (first
            | (refine ⟨⟨by kernel_rfl, by kernel_rfl⟩, ?_⟩; conv => whnf)
            | (refine And.intro (by first | omega | (simp; done) | (simp; omega)) ?_; conv => whnf)
            | (refine Or.inl (And.intro (by omega) ?_); conv => whnf))
          (refine br_intro (fun g3 => ?_) (fun g3 => ?_) <;> (conv => whnf))
          · exfalso
            have g3 : rd.getD k 0 ≥ X.length := by simpa using g3
            omega
          repeat (first
            | (refine ⟨⟨by kernel_rfl, by kernel_rfl⟩, ?_⟩; conv => whnf)
            | (refine And.intro (by first | omega | (simp; done) | (simp; omega)) ?_; conv => whnf)
            | (refine Or.inl (And.intro (by omega) ?_); conv => whnf))
          (refine br_intro (fun g4 => ?_) (fun g4 => ?_) <;> (conv => whnf))
          · have g4 : 0 < k := by simp at g4; omega
            obtain ⟨j, rfl⟩ : ∃ j, k = j + 1 := ⟨k - 1, by omega⟩
            have s3 := r4 j g1
            have s4 : ((((j + 1 : Nat) : Int)) - 1).toNat = j := by omega
            repeat (first
              | (refine ⟨⟨by kernel_rfl, by kernel_rfl⟩, ?_⟩; conv => whnf)
              | (refine And.intro (by first | omega | (simp; done) | (simp; omega)) ?_; conv => whnf)
              | (refine Or.inl (And.intro (by omega) ?_); conv => whnf))
            (refine br_intro (fun g5 => ?_) (fun g5 => ?_) <;> (conv => whnf))
            · exfalso
              have g5 : decide (rd.getD (j + 1) 0 ≤ rd.getD ((((j + 1 : Nat) : Int)) - 1).toNat 0) = true := g5
              rw [s4] at g5
              have := of_decide_eq_true g5
              omega
            repeat (first
              | (refine ⟨⟨by kernel_rfl, by kernel_rfl⟩, ?_⟩; conv => whnf)
              | (refine And.intro (by first | omega | (simp; done) | (simp; omega)) ?_; conv => whnf)
              | (refine Or.inl (And.intro (by omega) ?_); conv => whnf))
            refine ⟨j + 1 + 1, id, ⟨g1, by dsimp only; omega⟩, rfl, ⟨rfl, rfl, rfl, trivial⟩, ⟨rfl, trivial⟩⟩
          · repeat (first
              | (refine ⟨⟨by kernel_rfl, by kernel_rfl⟩, ?_⟩; conv => whnf)
              | (refine And.intro (by first | omega | (simp; done) | (simp; omega)) ?_; conv => whnf)
              | (refine Or.inl (And.intro (by omega) ?_); conv => whnf))
            refine ⟨k + 1, id, ⟨g1, by dsimp only; omega⟩, rfl, ⟨rfl, rfl, rfl, trivial⟩, ⟨rfl, trivial⟩⟩
        · have g1 : k = rd.length := by simp at g1; omega
          subst g1
          repeat (first
            | (refine ⟨⟨by kernel_rfl, by kernel_rfl⟩, ?_⟩; conv => whnf)
            | (refine And.intro (by first | omega | (simp; done) | (simp; omega)) ?_; conv => whnf)
            | (refine Or.inl (And.intro (by omega) ?_); conv => whnf))
          exact congrArg AV.bool (decide_eq_true (by omega))

end Go.Proofs.Ytngmlbeafdaolaa
