/- What each function of this seat does (Lkq). Printed from templates of this seat's own. -/
import Derived.Test.YtagiajolklbbiaaLk2
namespace Go.Proofs.Ytagiajolklbbiaa
open Go.Ax Go.Bx
set_option maxRecDepth 8000
set_option linter.unusedSimpArgs false
set_option linter.unusedVariables false

theorem nnI {a b : Int} (h : a ≤ b) : (b - a).NonNeg := h
theorem nnL {a b : Nat} (h : a ≤ b) : a.le b := h
set_option maxHeartbeats 4000000 in
theorem iMadeQ {w h : Nat} {G : Nat → Nat} {S : Nat → Int} {X : List Nat} {fq : Nat} {W H : Int} {t t' t2 : AV} (hw : 1 ≤ w ∧ w ≤ 16) (hh : 1 ≤ h ∧ h ≤ 16) (hf : ∀ (x y : Nat) (t t' t2 : AV), x < w → y < h → DoesP Try.prog 28 [.int .i64 x, .int .i64 y, .loc LK 0, .ref [.int .i64 W, .int .i64 H, .sli .f32 X t] t', .ref [.flt .f32 fq] t2] [.int .i64 (S (y * w + x))] (.flt .f32 (G (y * w + x))) [.int .i64 (S (y * w + x + 1))]) :
    DoesQ Try.prog 22 [.int .i64 w, .int .i64 h, .fn 28 [.loc LK 0, .ref [.int .i64 W, .int .i64 H, .sli .f32 X t] t', .ref [.flt .f32 fq] t2]] [.int .i64 (S 0)] (.tup [.agg [.int .i64 (selI (hillB w h (tabN G (h * w))) w), .int .i64 (selI (hillB w h (tabN G (h * w))) h), .own 0 .f32 (bif hillB w h (tabN G (h * w)) then tabN G (h * w) else [])], .bool (hillB w h (tabN G (h * w)))]) [.int .i64 (S (h * w))] := by
  have hm : h * w ≤ 256 := Nat.mul_le_mul hh.2 hw.2
  have hf0 : ∀ t t' t2 : AV, DoesP Try.prog 28 [.int .i64 (0 : Nat), .int .i64 (0 : Nat), .loc LK 0, .ref [.int .i64 W, .int .i64 H, .sli .f32 X t] t', .ref [.flt .f32 fq] t2] [.int .i64 (S 0)] (.flt .f32 (G 0)) [.int .i64 (S 1)] := fun t t' t2 => by
    have := hf 0 0 t t' t2 (by omega) (by omega)
    rwa [Nat.zero_mul] at this
  refine DoesQ.of_awp (X := cxW 37) Try.func22 rfl (by kernel_rfl) rfl (by simp [cxW]) [400] rfl rfl rfl ?_
  conv => whnf
  repeat (first
    | (refine ⟨⟨by kernel_rfl, by kernel_rfl⟩, ?_⟩; conv => whnf)
    | (refine And.intro (by first | omega | (simp; done) | (simp; omega)) ?_; conv => whnf)
    | (refine Or.inl (And.intro (by omega) ?_); conv => whnf))
  refine ⟨Nat × Bool, fun p => p.1 ≤ h ∧ (p.2 = true → p.1 = 0), fun p => [(0, .int .i64 w), (2, .fn 28 [.loc LK 0, .ref [.int .i64 W, .int .i64 H, .sli .f32 X t] t', .ref [.flt .f32 fq] t2]), (6, .loc 24 0), (8, .loc 32 0), (14, .int .i64 h), (15, .int .i64 p.1)], fun p => bif p.2 then [(24, .av [.int .i64 0, .int .i64 0, .emp .f32]), (32, .av [.int .i64 w, .int .i64 h, .emp .f32]), (LK, .av [.int .i64 (S 0)])] else [(24, .av [.int .i64 0, .int .i64 0, .emp .f32]), (32, .av [.int .i64 w, .int .i64 h, .osl 400]), (400, .tab .f32 (tabN G (p.1 * w))), (LK, .av [.int .i64 (S (p.1 * w))])], fun p => h - p.1, ⟨(0, true), id, ⟨Nat.zero_le _, fun _ => rfl⟩, rfl, ⟨rfl, rfl, rfl, rfl, rfl, rfl, trivial⟩, ⟨rfl, rfl, rfl, trivial⟩⟩, fun p hp => ?_⟩
  obtain ⟨y, b⟩ := p
  obtain ⟨hy, hb⟩ := hp
  dsimp only at hy hb
  cases b
  · conv => whnf
    (refine br_intro (fun h1 => ?_) (fun h1 => ?_) <;> (conv => whnf))
    · have h1 : y < h := by simp at h1; omega
      repeat (first
        | (refine ⟨⟨by kernel_rfl, by kernel_rfl⟩, ?_⟩; conv => whnf)
        | (refine And.intro (by first | omega | (simp; done) | (simp; omega)) ?_; conv => whnf)
        | (refine Or.inl (And.intro (by omega) ?_); conv => whnf))
      refine ⟨Nat, fun x => x ≤ w, fun x => [(0, .int .i64 w), (2, .fn 28 [.loc LK 0, .ref [.int .i64 W, .int .i64 H, .sli .f32 X t] t', .ref [.flt .f32 fq] t2]), (6, .loc 24 0), (8, .loc 32 0), (14, .int .i64 h), (15, .int .i64 y), (9, .int .i64 y), (18, .int .i64 w), (19, .int .i64 x)], fun x => [(24, .av [.int .i64 0, .int .i64 0, .emp .f32]), (32, .av [.int .i64 w, .int .i64 h, .osl 400]), (400, .tab .f32 (tabN G (y * w + x))), (LK, .av [.int .i64 (S (y * w + x))])], fun x => w - x, ⟨0, id, Nat.zero_le _, rfl, ⟨rfl, rfl, rfl, rfl, rfl, rfl, rfl, rfl, rfl, trivial⟩, ⟨rfl, rfl, rfl, rfl, trivial⟩⟩, fun x hx => ?_⟩
      dsimp only at hx
      conv => whnf
      (refine br_intro (fun h2 => ?_) (fun h2 => ?_) <;> (conv => whnf))
      · have h2 : x < w := by simp at h2; omega
        have hxy : y * w + x < h * w := by
          have := Nat.mul_le_mul_right w (show y + 1 ≤ h by omega)
          rw [Nat.succ_mul] at this; omega
        repeat (first
          | (refine ⟨⟨by kernel_rfl, by kernel_rfl⟩, ?_⟩; conv => whnf)
          | (refine And.intro (by first | omega | (simp; done) | (simp; omega)) ?_; conv => whnf)
          | (refine Or.inl (And.intro (by omega) ?_); conv => whnf))
        refine ⟨[2, 3, 4], ⟨by kernel_rfl, by kernel_rfl⟩, ?_⟩
        conv => whnf
        repeat' (first | exact True.intro | (refine Exists.intro _ (Exists.intro _ (And.intro (And.intro (hf x y _ _ _ h2 h1) rfl) ?_)); conv => whnf) | (refine And.intro ?_ ?_ <;> (conv => whnf)))
        all_goals (first | (refine ⟨x + 1, ren [(400, 116)], ⟨h2, by dsimp only; omega⟩, rfl, ⟨rfl, rfl, rfl, rfl, rfl, rfl, rfl, rfl, rfl, trivial⟩, ⟨rfl, rfl, rfl, rfl, trivial⟩⟩) | (refine nnI ?_; omega) | (refine nnL ?_; simp only [tabN_len, List.length_singleton]; omega))
      · have h2 : x = w := by simp at h2; omega
        subst h2
        repeat (first
          | (refine ⟨⟨by kernel_rfl, by kernel_rfl⟩, ?_⟩; conv => whnf)
          | (refine And.intro (by first | omega | (simp; done) | (simp; omega)) ?_; conv => whnf)
          | (refine Or.inl (And.intro (by omega) ?_); conv => whnf))
        refine ⟨(y + 1, false), id, ⟨⟨h1, fun e => by cases e⟩, by dsimp only; omega⟩, rfl, ⟨rfl, rfl, rfl, rfl, rfl, rfl, trivial⟩, ⟨rfl, rfl, congrArg (fun n => KS.live (Blk.tab .f32 (tabN G n))) (Nat.succ_mul y x).symm, congrArg (fun n => KS.live (Blk.av [.int .i64 (S n)])) (Nat.succ_mul y x).symm, trivial⟩⟩
    · have h1 : y = h := by simp at h1; omega
      subst h1
      repeat (first
        | (refine ⟨⟨by kernel_rfl, by kernel_rfl⟩, ?_⟩; conv => whnf)
        | (refine And.intro (by first | omega | (simp; done) | (simp; omega)) ?_; conv => whnf)
        | (refine Or.inl (And.intro (by omega) ?_); conv => whnf))
      have hl : (tabN G (y * w)).length = y * w := tabN_len _ _
      cases hG : hillB w y (tabN G (y * w)) with
      | true =>
        have e := iGive (t := .osl 400) (by omega) hG
        repeat (first
          | (refine ⟨⟨by kernel_rfl, by kernel_rfl⟩, ?_⟩; conv => whnf)
          | (refine And.intro (by first | omega | (simp; done) | (simp; omega)) ?_; conv => whnf)
          | (refine Or.inl (And.intro (by omega) ?_); conv => whnf)
          | (refine Exists.intro _ (And.intro (e) ?_); conv => whnf))
        all_goals (try (conv => whnf))
        all_goals (repeat' (first | exact True.intro | (refine And.intro ?_ ?_ <;> (conv => whnf))))
        all_goals (first | rfl | (simp_all [selI]; done) | (simp only [selI, cond_true, cond_false, Bool.and_true, Bool.true_and, Bool.and_false, Bool.false_and]; rfl) | (simp_all [selI]; omega))
      | false =>
        have e := iGive' (t := .osl 400) (by omega) hG
        repeat (first
          | (refine ⟨⟨by kernel_rfl, by kernel_rfl⟩, ?_⟩; conv => whnf)
          | (refine And.intro (by first | omega | (simp; done) | (simp; omega)) ?_; conv => whnf)
          | (refine Or.inl (And.intro (by omega) ?_); conv => whnf)
          | (refine Exists.intro _ (And.intro (e) ?_); conv => whnf))
        all_goals (try (conv => whnf))
        all_goals (repeat' (first | exact True.intro | (refine And.intro ?_ ?_ <;> (conv => whnf))))
        all_goals (first | rfl | (simp_all [selI]; done) | (simp only [selI, cond_true, cond_false, Bool.and_true, Bool.true_and, Bool.and_false, Bool.false_and]; rfl) | (simp_all [selI]; omega))
  · obtain rfl := hb rfl
    conv => whnf
    (refine br_intro (fun h1 => ?_) (fun h1 => ?_) <;> (conv => whnf))
    · have h1 : 0 < h := by omega
      repeat (first
        | (refine ⟨⟨by kernel_rfl, by kernel_rfl⟩, ?_⟩; conv => whnf)
        | (refine And.intro (by first | omega | (simp; done) | (simp; omega)) ?_; conv => whnf)
        | (refine Or.inl (And.intro (by omega) ?_); conv => whnf))
      refine ⟨Nat × Bool, fun q => q.1 ≤ w ∧ (q.2 = true → q.1 = 0), fun q => [(0, .int .i64 w), (2, .fn 28 [.loc LK 0, .ref [.int .i64 W, .int .i64 H, .sli .f32 X t] t', .ref [.flt .f32 fq] t2]), (6, .loc 24 0), (8, .loc 32 0), (14, .int .i64 h), (15, .int .i64 (0 : Nat)), (9, .int .i64 (0 : Nat)), (18, .int .i64 w), (19, .int .i64 q.1)], fun q => bif q.2 then [(24, .av [.int .i64 0, .int .i64 0, .emp .f32]), (32, .av [.int .i64 w, .int .i64 h, .emp .f32]), (LK, .av [.int .i64 (S 0)])] else [(24, .av [.int .i64 0, .int .i64 0, .emp .f32]), (32, .av [.int .i64 w, .int .i64 h, .osl 400]), (400, .tab .f32 (tabN G (0 * w + q.1))), (LK, .av [.int .i64 (S (0 * w + q.1))])], fun q => w - q.1, ⟨(0, true), id, ⟨Nat.zero_le _, fun e => rfl⟩, rfl, ⟨rfl, rfl, rfl, rfl, rfl, rfl, rfl, rfl, rfl, trivial⟩, ⟨rfl, rfl, rfl, trivial⟩⟩, fun q hq => ?_⟩
      obtain ⟨x, b⟩ := q
      obtain ⟨hx, hb'⟩ := hq
      dsimp only at hx hb'
      cases b
      · conv => whnf
        (refine br_intro (fun h2 => ?_) (fun h2 => ?_) <;> (conv => whnf))
        · have h2 : x < w := by simp at h2; omega
          have hxy : 0 * w + x < h * w := by
            have := Nat.mul_le_mul_right w (show 0 + 1 ≤ h by omega)
            rw [Nat.succ_mul] at this; omega
          repeat (first
            | (refine ⟨⟨by kernel_rfl, by kernel_rfl⟩, ?_⟩; conv => whnf)
            | (refine And.intro (by first | omega | (simp; done) | (simp; omega)) ?_; conv => whnf)
            | (refine Or.inl (And.intro (by omega) ?_); conv => whnf))
          refine ⟨[2, 3, 4], ⟨by kernel_rfl, by kernel_rfl⟩, ?_⟩
          conv => whnf
          repeat' (first | exact True.intro | (refine Exists.intro _ (Exists.intro _ (And.intro (And.intro (hf x 0 _ _ _ h2 h1) rfl) ?_)); conv => whnf) | (refine And.intro ?_ ?_ <;> (conv => whnf)))
          all_goals (first | (refine ⟨(x + 1, false), ren [(400, 116)], ⟨⟨h2, fun e => by cases e⟩, by dsimp only; omega⟩, rfl, ⟨rfl, rfl, rfl, rfl, rfl, rfl, rfl, rfl, rfl, trivial⟩, ⟨rfl, rfl, rfl, rfl, trivial⟩⟩) | (refine nnI ?_; omega) | (refine nnL ?_; simp only [tabN_len, List.length_singleton]; omega))
        · have h2 : x = w := by simp at h2; omega
          subst h2
          repeat (first
            | (refine ⟨⟨by kernel_rfl, by kernel_rfl⟩, ?_⟩; conv => whnf)
            | (refine And.intro (by first | omega | (simp; done) | (simp; omega)) ?_; conv => whnf)
            | (refine Or.inl (And.intro (by omega) ?_); conv => whnf))
          refine ⟨(0 + 1, false), id, ⟨⟨h1, fun e => by cases e⟩, by dsimp only; omega⟩, rfl, ⟨rfl, rfl, rfl, rfl, rfl, rfl, trivial⟩, ⟨rfl, rfl, congrArg (fun n => KS.live (Blk.tab .f32 (tabN G n))) (Nat.succ_mul 0 x).symm, congrArg (fun n => KS.live (Blk.av [.int .i64 (S n)])) (Nat.succ_mul 0 x).symm, trivial⟩⟩
      · obtain rfl := hb' rfl
        conv => whnf
        (refine br_intro (fun h2 => ?_) (fun h2 => ?_) <;> (conv => whnf))
        · have h2 : 0 < w := by omega
          repeat (first
            | (refine ⟨⟨by kernel_rfl, by kernel_rfl⟩, ?_⟩; conv => whnf)
            | (refine And.intro (by first | omega | (simp; done) | (simp; omega)) ?_; conv => whnf)
            | (refine Or.inl (And.intro (by omega) ?_); conv => whnf))
          refine ⟨[2, 3, 4], ⟨by kernel_rfl, by kernel_rfl⟩, ?_⟩
          conv => whnf
          repeat' (first | exact True.intro | (refine Exists.intro _ (Exists.intro _ (And.intro (And.intro (hf0 _ _ _) rfl) ?_)); conv => whnf) | (refine And.intro ?_ ?_ <;> (conv => whnf)))
          all_goals (first | (refine ⟨(1, false), ren [(400, 116)], ⟨⟨h2, fun e => by cases e⟩, by dsimp only; omega⟩, rfl, ⟨rfl, rfl, rfl, rfl, rfl, rfl, rfl, rfl, rfl, trivial⟩, ⟨rfl, rfl, congrArg (fun l => KS.live (Blk.tab .f32 l)) (show [G 0] = tabN G (0 * w + 1) by rw [Nat.zero_mul]; rfl), congrArg (fun n => KS.live (Blk.av [.int .i64 (S n)])) (show 1 = 0 * w + 1 by rw [Nat.zero_mul]), trivial⟩⟩) | (refine nnI ?_; dsimp only; omega) | (refine nnL ?_; simp only [List.length_nil, List.length_singleton]; omega) | decide)
        · exfalso; simp at h2; omega
    · exfalso; simp at h1; omega


theorem iRough {w h : Nat} {X : List Nat} {t : AV} (hh : hillB w h X = true) (he : tabN (fun n => rgV X (canon .f32 0) (sdT n) n) (h * w) = X) : Does Try.prog 8 [.agg [.int .i64 w, .int .i64 h, .sli .f32 X t], .flt .f32 (canon .f32 0), .int .i64 77] (.tup [.agg [.int .i64 w, .int .i64 h, .own 0 .f32 X], .int .i64 (sdT (h * w)), .bool true]) := by
  obtain ⟨k1, k2, k3, k4, k5, k6, k7⟩ := hill_len hh
  have lX : X.length = w * h := by rw [← Int.natCast_mul] at k5; omega
  have e1 : ∀ t, Does Try.prog 21 [.agg [.int .i64 w, .int .i64 h, .sli .f32 X t]] (.bool true) := fun t => hh ▸ iIs (by omega)
  have e2 : Does Try.prog 26 [.flt .f32 (canon .f32 0)] (.bool true) := (show fin (canon .f32 0) = true by decide +kernel) ▸ iIsFinite
  have e4 : Does Try.prog 27 [.int .i64 77] (.bool true) := by
    have ew : Does Try.prog 47 [.int .i64 77, .int .i64 0, .int .i64 2147483647] (.bool true) := (show inR 77 0 2147483647 = true by decide) ▸ iWithin
    refine Does.of_awp (X := cx 5) Try.func27 rfl (by kernel_rfl) rfl (by simp [cx]) [] rfl ?_
    conv => whnf
    repeat (first
      | (refine ⟨⟨by kernel_rfl, by kernel_rfl⟩, ?_⟩; conv => whnf)
      | (refine And.intro (by first | omega | (simp; done) | (simp; omega)) ?_; conv => whnf)
      | (refine Or.inl (And.intro (by omega) ?_); conv => whnf)
      | (refine Exists.intro _ (And.intro (ew) ?_); conv => whnf))
    all_goals (first | rfl | trivial)
  have e3 : ∀ t t' t2, DoesQ Try.prog 22 [.int .i64 w, .int .i64 h, .fn 28 [.loc LK 0, .ref [.int .i64 w, .int .i64 h, .sli .f32 X t] t', .ref [.flt .f32 (canon .f32 0)] t2]] [.int .i64 77] (.tup [.agg [.int .i64 w, .int .i64 h, .own 0 .f32 X], .bool true]) [.int .i64 (sdT (h * w))] := fun t t' t2 => by
    have := @iMadeQ w h (fun n => rgV X (canon .f32 0) (sdT n) n) sdT X (canon .f32 0) w h t t' t2 (by omega) (by omega) (fun x y t t' t2 hx hy => by
      have r := sdT_range (y * w + x)
      exact iRough1 lX (by omega) (by omega) hx hy r.1 r.2)
    rw [he, hh] at this
    exact this
  generalize sdT (h * w) = sd at *
  refine Does.of_awp (X := cxW 39) Try.func8 rfl (by kernel_rfl) rfl (by simp [cxW]) [124] rfl ?_
  conv => whnf
  repeat (first
    | (refine ⟨⟨by kernel_rfl, by kernel_rfl⟩, ?_⟩; conv => whnf)
    | (refine And.intro (by first | omega | (simp; done) | (simp; omega)) ?_; conv => whnf)
    | (refine Or.inl (And.intro (by omega) ?_); conv => whnf)
    | (refine Exists.intro _ (And.intro (e1 _) ?_); conv => whnf)
    | (refine Exists.intro _ (And.intro (e2) ?_); conv => whnf)
    | (refine Exists.intro _ (And.intro (e4) ?_); conv => whnf)
    | (refine Exists.intro _ (Exists.intro _ (And.intro (And.intro (e3 _ _ _) rfl) ?_)); conv => whnf))
  refine ⟨[], ⟨by kernel_rfl, by kernel_rfl⟩, ?_⟩
  conv => whnf
  repeat' (first | exact True.intro | (refine And.intro ?_ ?_ <;> (conv => whnf)))
  all_goals (first | rfl | trivial)

end Go.Proofs.Ytagiajolklbbiaa
