/- What each function of this seat does (Mde). Printed from templates of this seat's own. -/
import Derived.Test.YtagiajolklbbiaaScl
namespace Go.Proofs.Ytagiajolklbbiaa
open Go.Ax Go.Bx
set_option maxRecDepth 8000
set_option linter.unusedSimpArgs false
set_option linter.unusedVariables false

theorem iMadeH2 {w h : Nat} {f : FuncId} {G : Nat → Nat} {xs ys : List Nat} {W H W2 H2 : Int} {t t' t2 t3 : AV} (hw : 1 ≤ w ∧ w ≤ 16) (hh : 1 ≤ h ∧ h ≤ 16) (hf : ∀ (x y : Nat) (t t' t2 t3 : AV), x < w → y < h → Does Try.prog f [.int .i64 x, .int .i64 y, .ref [.int .i64 W, .int .i64 H, .sli .f32 xs t] t', .ref [.int .i64 W2, .int .i64 H2, .sli .f32 ys t2] t3] (.flt .f32 (G (y * w + x)))) :
    Does Try.prog 22 [.int .i64 w, .int .i64 h, .fn f [.ref [.int .i64 W, .int .i64 H, .sli .f32 xs t] t', .ref [.int .i64 W2, .int .i64 H2, .sli .f32 ys t2] t3]] (.tup [.agg [.int .i64 (selI (hillB w h (tabN G (h * w))) w), .int .i64 (selI (hillB w h (tabN G (h * w))) h), .own 0 .f32 (bif hillB w h (tabN G (h * w)) then tabN G (h * w) else [])], .bool (hillB w h (tabN G (h * w)))]) := by
  have hm : h * w ≤ 256 := Nat.mul_le_mul hh.2 hw.2
  refine Does.of_awp (X := cx 37) Try.func22 rfl (by kernel_rfl) rfl (by simp [cx]) [400] rfl ?_
  conv => whnf
  repeat (first
    | (refine ⟨⟨by kernel_rfl, by kernel_rfl⟩, ?_⟩; conv => whnf)
    | (refine And.intro (by first | omega | (simp; done) | (simp; omega)) ?_; conv => whnf)
    | (refine Or.inl (And.intro (by omega) ?_); conv => whnf))
  refine ⟨Nat × Bool, fun p => p.1 ≤ h ∧ (p.2 = true → p.1 = 0), fun p => [(0, .int .i64 w), (2, .fn f [.ref [.int .i64 W, .int .i64 H, .sli .f32 xs t] t', .ref [.int .i64 W2, .int .i64 H2, .sli .f32 ys t2] t3]), (6, .loc 24 0), (8, .loc 32 0), (14, .int .i64 h), (15, .int .i64 p.1)], fun p => bif p.2 then [(24, .av [.int .i64 0, .int .i64 0, .emp .f32]), (32, .av [.int .i64 w, .int .i64 h, .emp .f32])] else [(24, .av [.int .i64 0, .int .i64 0, .emp .f32]), (32, .av [.int .i64 w, .int .i64 h, .osl 400]), (400, .tab .f32 (tabN G (p.1 * w)))], fun p => h - p.1, ⟨(0, true), id, ⟨Nat.zero_le _, fun _ => rfl⟩, rfl, ⟨rfl, rfl, rfl, rfl, rfl, rfl, trivial⟩, ⟨rfl, rfl, trivial⟩⟩, fun p hp => ?_⟩
  obtain ⟨y, b⟩ := p
  obtain ⟨hy, hb⟩ := hp
  dsimp only at hy hb
  cases b
  · conv => whnf
    (refine br_intro (fun h1 => ?_) (fun h1 => ?_) <;> (conv => whnf))
    · have h1 : y < h := by simp at h1; omega
      repeat (first
        | (refine ⟨⟨by kernel_rfl, by kernel_rfl⟩, ?_⟩; conv => whnf)
        | (refine And.intro (by first | omega | (simp; done) | (simp; omega)) ?_; conv => whnf)
        | (refine Or.inl (And.intro (by omega) ?_); conv => whnf))
      refine ⟨Nat × Bool, fun q => q.1 ≤ w ∧ (q.2 = true → y = 0 ∧ q.1 = 0), fun q => [(0, .int .i64 w), (2, .fn f [.ref [.int .i64 W, .int .i64 H, .sli .f32 xs t] t', .ref [.int .i64 W2, .int .i64 H2, .sli .f32 ys t2] t3]), (6, .loc 24 0), (8, .loc 32 0), (14, .int .i64 h), (15, .int .i64 y), (9, .int .i64 y), (18, .int .i64 w), (19, .int .i64 q.1)], fun q => bif q.2 then [(24, .av [.int .i64 0, .int .i64 0, .emp .f32]), (32, .av [.int .i64 w, .int .i64 h, .emp .f32])] else [(24, .av [.int .i64 0, .int .i64 0, .emp .f32]), (32, .av [.int .i64 w, .int .i64 h, .osl 400]), (400, .tab .f32 (tabN G (y * w + q.1)))], fun q => w - q.1, ⟨(0, false), id, ⟨Nat.zero_le _, fun e => ⟨hb e, rfl⟩⟩, rfl, ⟨rfl, rfl, rfl, rfl, rfl, rfl, rfl, rfl, rfl, trivial⟩, ⟨rfl, rfl, rfl, trivial⟩⟩, fun q hq => ?_⟩
      obtain ⟨x, b⟩ := q
      obtain ⟨hx, hb'⟩ := hq
      dsimp only at hx hb'
      cases b
      · conv => whnf
        (refine br_intro (fun h2 => ?_) (fun h2 => ?_) <;> (conv => whnf))
        · have h2 : x < w := by simp at h2; omega
          have hxy : y * w + x < h * w := by
            have := Nat.mul_le_mul_right w (show y + 1 ≤ h by omega)
            rw [Nat.succ_mul] at this; omega
          repeat (first
            | (refine ⟨⟨by kernel_rfl, by kernel_rfl⟩, ?_⟩; conv => whnf)
            | (refine And.intro (by first | omega | (simp; done) | (simp; omega)) ?_; conv => whnf)
            | (refine Or.inl (And.intro (by omega) ?_); conv => whnf)
            | (refine Exists.intro _ (And.intro (hf x y _ _ _ _ h2 h1) ?_); conv => whnf))
          refine ⟨(x + 1, false), ren [(400, 116)], ⟨⟨h2, fun e => by cases e⟩, by dsimp only; omega⟩, rfl, ⟨rfl, rfl, rfl, rfl, rfl, rfl, rfl, rfl, rfl, trivial⟩, ⟨rfl, rfl, rfl, trivial⟩⟩
        · have h2 : x = w := by simp at h2; omega
          subst h2
          repeat (first
            | (refine ⟨⟨by kernel_rfl, by kernel_rfl⟩, ?_⟩; conv => whnf)
            | (refine And.intro (by first | omega | (simp; done) | (simp; omega)) ?_; conv => whnf)
            | (refine Or.inl (And.intro (by omega) ?_); conv => whnf))
          refine ⟨(y + 1, false), id, ⟨⟨h1, fun e => by cases e⟩, by dsimp only; omega⟩, rfl, ⟨rfl, rfl, rfl, rfl, rfl, rfl, trivial⟩, ⟨rfl, rfl, congrArg (fun n => KS.live (Blk.tab .f32 (tabN G n))) (Nat.succ_mul y x).symm, trivial⟩⟩
      · obtain ⟨rfl, rfl⟩ := hb' rfl
        conv => whnf
        (refine br_intro (fun h2 => ?_) (fun h2 => ?_) <;> (conv => whnf))
        · have h2 : 0 < w := by omega
          repeat (first
            | (refine ⟨⟨by kernel_rfl, by kernel_rfl⟩, ?_⟩; conv => whnf)
            | (refine And.intro (by first | omega | (simp; done) | (simp; omega)) ?_; conv => whnf)
            | (refine Or.inl (And.intro (by omega) ?_); conv => whnf)
            | (refine Exists.intro _ (And.intro (hf 0 0 _ _ _ _ h2 h1) ?_); conv => whnf))
          refine ⟨(1, false), ren [(400, 116)], ⟨⟨h2, fun e => by cases e⟩, by dsimp only; omega⟩, rfl, ⟨rfl, rfl, rfl, rfl, rfl, rfl, rfl, rfl, rfl, trivial⟩, ⟨rfl, rfl, congrArg (fun l => KS.live (Blk.tab .f32 l)) (show [G (0 * w + 0)] = tabN G (0 * w + 1) by rw [Nat.zero_mul]; rfl), trivial⟩⟩
        · exfalso; simp at h2; omega
    · have h1 : y = h := by simp at h1; omega
      subst h1
      repeat (first
        | (refine ⟨⟨by kernel_rfl, by kernel_rfl⟩, ?_⟩; conv => whnf)
        | (refine And.intro (by first | omega | (simp; done) | (simp; omega)) ?_; conv => whnf)
        | (refine Or.inl (And.intro (by omega) ?_); conv => whnf))
      have hl : (tabN G (y * w)).length = y * w := tabN_len _ _
      cases hG : hillB w y (tabN G (y * w)) with
      | true =>
        have e := iGive (t := .osl 400) (by omega) hG
        repeat (first
          | (refine ⟨⟨by kernel_rfl, by kernel_rfl⟩, ?_⟩; conv => whnf)
          | (refine And.intro (by first | omega | (simp; done) | (simp; omega)) ?_; conv => whnf)
          | (refine Or.inl (And.intro (by omega) ?_); conv => whnf)
          | (refine Exists.intro _ (And.intro (e) ?_); conv => whnf))
        all_goals (try (conv => whnf))
        all_goals (repeat' (first | exact True.intro | (refine And.intro ?_ ?_ <;> (conv => whnf))))
        all_goals (first | rfl | (simp_all [selI]; done) | (simp only [selI, cond_true, cond_false, Bool.and_true, Bool.true_and, Bool.and_false, Bool.false_and]; rfl) | (simp_all [selI]; omega))
      | false =>
        have e := iGive' (t := .osl 400) (by omega) hG
        repeat (first
          | (refine ⟨⟨by kernel_rfl, by kernel_rfl⟩, ?_⟩; conv => whnf)
          | (refine And.intro (by first | omega | (simp; done) | (simp; omega)) ?_; conv => whnf)
          | (refine Or.inl (And.intro (by omega) ?_); conv => whnf)
          | (refine Exists.intro _ (And.intro (e) ?_); conv => whnf))
        all_goals (try (conv => whnf))
        all_goals (repeat' (first | exact True.intro | (refine And.intro ?_ ?_ <;> (conv => whnf))))
        all_goals (first | rfl | (simp_all [selI]; done) | (simp only [selI, cond_true, cond_false, Bool.and_true, Bool.true_and, Bool.and_false, Bool.false_and]; rfl) | (simp_all [selI]; omega))
  · conv => whnf
    (refine br_intro (fun h1 => ?_) (fun h1 => ?_) <;> (conv => whnf))
    · have h1 : y < h := by simp at h1; omega
      repeat (first
        | (refine ⟨⟨by kernel_rfl, by kernel_rfl⟩, ?_⟩; conv => whnf)
        | (refine And.intro (by first | omega | (simp; done) | (simp; omega)) ?_; conv => whnf)
        | (refine Or.inl (And.intro (by omega) ?_); conv => whnf))
      refine ⟨Nat × Bool, fun q => q.1 ≤ w ∧ (q.2 = true → y = 0 ∧ q.1 = 0), fun q => [(0, .int .i64 w), (2, .fn f [.ref [.int .i64 W, .int .i64 H, .sli .f32 xs t] t', .ref [.int .i64 W2, .int .i64 H2, .sli .f32 ys t2] t3]), (6, .loc 24 0), (8, .loc 32 0), (14, .int .i64 h), (15, .int .i64 y), (9, .int .i64 y), (18, .int .i64 w), (19, .int .i64 q.1)], fun q => bif q.2 then [(24, .av [.int .i64 0, .int .i64 0, .emp .f32]), (32, .av [.int .i64 w, .int .i64 h, .emp .f32])] else [(24, .av [.int .i64 0, .int .i64 0, .emp .f32]), (32, .av [.int .i64 w, .int .i64 h, .osl 400]), (400, .tab .f32 (tabN G (y * w + q.1)))], fun q => w - q.1, ⟨(0, true), id, ⟨Nat.zero_le _, fun e => ⟨hb e, rfl⟩⟩, rfl, ⟨rfl, rfl, rfl, rfl, rfl, rfl, rfl, rfl, rfl, trivial⟩, ⟨rfl, rfl, trivial⟩⟩, fun q hq => ?_⟩
      obtain ⟨x, b⟩ := q
      obtain ⟨hx, hb'⟩ := hq
      dsimp only at hx hb'
      cases b
      · conv => whnf
        (refine br_intro (fun h2 => ?_) (fun h2 => ?_) <;> (conv => whnf))
        · have h2 : x < w := by simp at h2; omega
          have hxy : y * w + x < h * w := by
            have := Nat.mul_le_mul_right w (show y + 1 ≤ h by omega)
            rw [Nat.succ_mul] at this; omega
          repeat (first
            | (refine ⟨⟨by kernel_rfl, by kernel_rfl⟩, ?_⟩; conv => whnf)
            | (refine And.intro (by first | omega | (simp; done) | (simp; omega)) ?_; conv => whnf)
            | (refine Or.inl (And.intro (by omega) ?_); conv => whnf)
            | (refine Exists.intro _ (And.intro (hf x y _ _ _ _ h2 h1) ?_); conv => whnf))
          refine ⟨(x + 1, false), ren [(400, 116)], ⟨⟨h2, fun e => by cases e⟩, by dsimp only; omega⟩, rfl, ⟨rfl, rfl, rfl, rfl, rfl, rfl, rfl, rfl, rfl, trivial⟩, ⟨rfl, rfl, rfl, trivial⟩⟩
        · have h2 : x = w := by simp at h2; omega
          subst h2
          repeat (first
            | (refine ⟨⟨by kernel_rfl, by kernel_rfl⟩, ?_⟩; conv => whnf)
            | (refine And.intro (by first | omega | (simp; done) | (simp; omega)) ?_; conv => whnf)
            | (refine Or.inl (And.intro (by omega) ?_); conv => whnf))
          refine ⟨(y + 1, false), id, ⟨⟨h1, fun e => by cases e⟩, by dsimp only; omega⟩, rfl, ⟨rfl, rfl, rfl, rfl, rfl, rfl, trivial⟩, ⟨rfl, rfl, congrArg (fun n => KS.live (Blk.tab .f32 (tabN G n))) (Nat.succ_mul y x).symm, trivial⟩⟩
      · obtain ⟨rfl, rfl⟩ := hb' rfl
        conv => whnf
        (refine br_intro (fun h2 => ?_) (fun h2 => ?_) <;> (conv => whnf))
        · have h2 : 0 < w := by omega
          repeat (first
            | (refine ⟨⟨by kernel_rfl, by kernel_rfl⟩, ?_⟩; conv => whnf)
            | (refine And.intro (by first | omega | (simp; done) | (simp; omega)) ?_; conv => whnf)
            | (refine Or.inl (And.intro (by omega) ?_); conv => whnf)
            | (refine Exists.intro _ (And.intro (hf 0 0 _ _ _ _ h2 h1) ?_); conv => whnf))
          refine ⟨(1, false), ren [(400, 116)], ⟨⟨h2, fun e => by cases e⟩, by dsimp only; omega⟩, rfl, ⟨rfl, rfl, rfl, rfl, rfl, rfl, rfl, rfl, rfl, trivial⟩, ⟨rfl, rfl, congrArg (fun l => KS.live (Blk.tab .f32 l)) (show [G (0 * w + 0)] = tabN G (0 * w + 1) by rw [Nat.zero_mul]; rfl), trivial⟩⟩
        · exfalso; simp at h2; omega
    · exfalso; have := hb rfl; simp at h1; omega
theorem iMadeF3 {w h : Nat} {f : FuncId} {G : Nat → Nat} {a b c : Nat} {t t' t2 : AV} (hw : 1 ≤ w ∧ w ≤ 16) (hh : 1 ≤ h ∧ h ≤ 16) (hf : ∀ (x y : Nat) (t t' t2 : AV), x < w → y < h → Does Try.prog f [.int .i64 x, .int .i64 y, .ref [.flt .f32 a] t, .ref [.flt .f32 b] t', .ref [.flt .f32 c] t2] (.flt .f32 (G (y * w + x)))) :
    Does Try.prog 22 [.int .i64 w, .int .i64 h, .fn f [.ref [.flt .f32 a] t, .ref [.flt .f32 b] t', .ref [.flt .f32 c] t2]] (.tup [.agg [.int .i64 (selI (hillB w h (tabN G (h * w))) w), .int .i64 (selI (hillB w h (tabN G (h * w))) h), .own 0 .f32 (bif hillB w h (tabN G (h * w)) then tabN G (h * w) else [])], .bool (hillB w h (tabN G (h * w)))]) := by
  have hm : h * w ≤ 256 := Nat.mul_le_mul hh.2 hw.2
  refine Does.of_awp (X := cx 37) Try.func22 rfl (by kernel_rfl) rfl (by simp [cx]) [400] rfl ?_
  conv => whnf
  repeat (first
    | (refine ⟨⟨by kernel_rfl, by kernel_rfl⟩, ?_⟩; conv => whnf)
    | (refine And.intro (by first | omega | (simp; done) | (simp; omega)) ?_; conv => whnf)
    | (refine Or.inl (And.intro (by omega) ?_); conv => whnf))
  refine ⟨Nat × Bool, fun p => p.1 ≤ h ∧ (p.2 = true → p.1 = 0), fun p => [(0, .int .i64 w), (2, .fn f [.ref [.flt .f32 a] t, .ref [.flt .f32 b] t', .ref [.flt .f32 c] t2]), (6, .loc 24 0), (8, .loc 32 0), (14, .int .i64 h), (15, .int .i64 p.1)], fun p => bif p.2 then [(24, .av [.int .i64 0, .int .i64 0, .emp .f32]), (32, .av [.int .i64 w, .int .i64 h, .emp .f32])] else [(24, .av [.int .i64 0, .int .i64 0, .emp .f32]), (32, .av [.int .i64 w, .int .i64 h, .osl 400]), (400, .tab .f32 (tabN G (p.1 * w)))], fun p => h - p.1, ⟨(0, true), id, ⟨Nat.zero_le _, fun _ => rfl⟩, rfl, ⟨rfl, rfl, rfl, rfl, rfl, rfl, trivial⟩, ⟨rfl, rfl, trivial⟩⟩, fun p hp => ?_⟩
  obtain ⟨y, b⟩ := p
  obtain ⟨hy, hb⟩ := hp
  dsimp only at hy hb
  cases b
  · conv => whnf
    (refine br_intro (fun h1 => ?_) (fun h1 => ?_) <;> (conv => whnf))
    · have h1 : y < h := by simp at h1; omega
      repeat (first
        | (refine ⟨⟨by kernel_rfl, by kernel_rfl⟩, ?_⟩; conv => whnf)
        | (refine And.intro (by first | omega | (simp; done) | (simp; omega)) ?_; conv => whnf)
        | (refine Or.inl (And.intro (by omega) ?_); conv => whnf))
      refine ⟨Nat × Bool, fun q => q.1 ≤ w ∧ (q.2 = true → y = 0 ∧ q.1 = 0), fun q => [(0, .int .i64 w), (2, .fn f [.ref [.flt .f32 a] t, .ref [.flt .f32 b] t', .ref [.flt .f32 c] t2]), (6, .loc 24 0), (8, .loc 32 0), (14, .int .i64 h), (15, .int .i64 y), (9, .int .i64 y), (18, .int .i64 w), (19, .int .i64 q.1)], fun q => bif q.2 then [(24, .av [.int .i64 0, .int .i64 0, .emp .f32]), (32, .av [.int .i64 w, .int .i64 h, .emp .f32])] else [(24, .av [.int .i64 0, .int .i64 0, .emp .f32]), (32, .av [.int .i64 w, .int .i64 h, .osl 400]), (400, .tab .f32 (tabN G (y * w + q.1)))], fun q => w - q.1, ⟨(0, false), id, ⟨Nat.zero_le _, fun e => ⟨hb e, rfl⟩⟩, rfl, ⟨rfl, rfl, rfl, rfl, rfl, rfl, rfl, rfl, rfl, trivial⟩, ⟨rfl, rfl, rfl, trivial⟩⟩, fun q hq => ?_⟩
      obtain ⟨x, b⟩ := q
      obtain ⟨hx, hb'⟩ := hq
      dsimp only at hx hb'
      cases b
      · conv => whnf
        (refine br_intro (fun h2 => ?_) (fun h2 => ?_) <;> (conv => whnf))
        · have h2 : x < w := by simp at h2; omega
          have hxy : y * w + x < h * w := by
            have := Nat.mul_le_mul_right w (show y + 1 ≤ h by omega)
            rw [Nat.succ_mul] at this; omega
          repeat (first
            | (refine ⟨⟨by kernel_rfl, by kernel_rfl⟩, ?_⟩; conv => whnf)
            | (refine And.intro (by first | omega | (simp; done) | (simp; omega)) ?_; conv => whnf)
            | (refine Or.inl (And.intro (by omega) ?_); conv => whnf)
            | (refine Exists.intro _ (And.intro (hf x y _ _ _ h2 h1) ?_); conv => whnf))
          refine ⟨(x + 1, false), ren [(400, 116)], ⟨⟨h2, fun e => by cases e⟩, by dsimp only; omega⟩, rfl, ⟨rfl, rfl, rfl, rfl, rfl, rfl, rfl, rfl, rfl, trivial⟩, ⟨rfl, rfl, rfl, trivial⟩⟩
        · have h2 : x = w := by simp at h2; omega
          subst h2
          repeat (first
            | (refine ⟨⟨by kernel_rfl, by kernel_rfl⟩, ?_⟩; conv => whnf)
            | (refine And.intro (by first | omega | (simp; done) | (simp; omega)) ?_; conv => whnf)
            | (refine Or.inl (And.intro (by omega) ?_); conv => whnf))
          refine ⟨(y + 1, false), id, ⟨⟨h1, fun e => by cases e⟩, by dsimp only; omega⟩, rfl, ⟨rfl, rfl, rfl, rfl, rfl, rfl, trivial⟩, ⟨rfl, rfl, congrArg (fun n => KS.live (Blk.tab .f32 (tabN G n))) (Nat.succ_mul y x).symm, trivial⟩⟩
      · obtain ⟨rfl, rfl⟩ := hb' rfl
        conv => whnf
        (refine br_intro (fun h2 => ?_) (fun h2 => ?_) <;> (conv => whnf))
        · have h2 : 0 < w := by omega
          repeat (first
            | (refine ⟨⟨by kernel_rfl, by kernel_rfl⟩, ?_⟩; conv => whnf)
            | (refine And.intro (by first | omega | (simp; done) | (simp; omega)) ?_; conv => whnf)
            | (refine Or.inl (And.intro (by omega) ?_); conv => whnf)
            | (refine Exists.intro _ (And.intro (hf 0 0 _ _ _ h2 h1) ?_); conv => whnf))
          refine ⟨(1, false), ren [(400, 116)], ⟨⟨h2, fun e => by cases e⟩, by dsimp only; omega⟩, rfl, ⟨rfl, rfl, rfl, rfl, rfl, rfl, rfl, rfl, rfl, trivial⟩, ⟨rfl, rfl, congrArg (fun l => KS.live (Blk.tab .f32 l)) (show [G (0 * w + 0)] = tabN G (0 * w + 1) by rw [Nat.zero_mul]; rfl), trivial⟩⟩
        · exfalso; simp at h2; omega
    · have h1 : y = h := by simp at h1; omega
      subst h1
      repeat (first
        | (refine ⟨⟨by kernel_rfl, by kernel_rfl⟩, ?_⟩; conv => whnf)
        | (refine And.intro (by first | omega | (simp; done) | (simp; omega)) ?_; conv => whnf)
        | (refine Or.inl (And.intro (by omega) ?_); conv => whnf))
      have hl : (tabN G (y * w)).length = y * w := tabN_len _ _
      cases hG : hillB w y (tabN G (y * w)) with
      | true =>
        have e := iGive (t := .osl 400) (by omega) hG
        repeat (first
          | (refine ⟨⟨by kernel_rfl, by kernel_rfl⟩, ?_⟩; conv => whnf)
          | (refine And.intro (by first | omega | (simp; done) | (simp; omega)) ?_; conv => whnf)
          | (refine Or.inl (And.intro (by omega) ?_); conv => whnf)
          | (refine Exists.intro _ (And.intro (e) ?_); conv => whnf))
        all_goals (try (conv => whnf))
        all_goals (repeat' (first | exact True.intro | (refine And.intro ?_ ?_ <;> (conv => whnf))))
        all_goals (first | rfl | (simp_all [selI]; done) | (simp only [selI, cond_true, cond_false, Bool.and_true, Bool.true_and, Bool.and_false, Bool.false_and]; rfl) | (simp_all [selI]; omega))
      | false =>
        have e := iGive' (t := .osl 400) (by omega) hG
        repeat (first
          | (refine ⟨⟨by kernel_rfl, by kernel_rfl⟩, ?_⟩; conv => whnf)
          | (refine And.intro (by first | omega | (simp; done) | (simp; omega)) ?_; conv => whnf)
          | (refine Or.inl (And.intro (by omega) ?_); conv => whnf)
          | (refine Exists.intro _ (And.intro (e) ?_); conv => whnf))
        all_goals (try (conv => whnf))
        all_goals (repeat' (first | exact True.intro | (refine And.intro ?_ ?_ <;> (conv => whnf))))
        all_goals (first | rfl | (simp_all [selI]; done) | (simp only [selI, cond_true, cond_false, Bool.and_true, Bool.true_and, Bool.and_false, Bool.false_and]; rfl) | (simp_all [selI]; omega))
  · conv => whnf
    (refine br_intro (fun h1 => ?_) (fun h1 => ?_) <;> (conv => whnf))
    · have h1 : y < h := by simp at h1; omega
      repeat (first
        | (refine ⟨⟨by kernel_rfl, by kernel_rfl⟩, ?_⟩; conv => whnf)
        | (refine And.intro (by first | omega | (simp; done) | (simp; omega)) ?_; conv => whnf)
        | (refine Or.inl (And.intro (by omega) ?_); conv => whnf))
      refine ⟨Nat × Bool, fun q => q.1 ≤ w ∧ (q.2 = true → y = 0 ∧ q.1 = 0), fun q => [(0, .int .i64 w), (2, .fn f [.ref [.flt .f32 a] t, .ref [.flt .f32 b] t', .ref [.flt .f32 c] t2]), (6, .loc 24 0), (8, .loc 32 0), (14, .int .i64 h), (15, .int .i64 y), (9, .int .i64 y), (18, .int .i64 w), (19, .int .i64 q.1)], fun q => bif q.2 then [(24, .av [.int .i64 0, .int .i64 0, .emp .f32]), (32, .av [.int .i64 w, .int .i64 h, .emp .f32])] else [(24, .av [.int .i64 0, .int .i64 0, .emp .f32]), (32, .av [.int .i64 w, .int .i64 h, .osl 400]), (400, .tab .f32 (tabN G (y * w + q.1)))], fun q => w - q.1, ⟨(0, true), id, ⟨Nat.zero_le _, fun e => ⟨hb e, rfl⟩⟩, rfl, ⟨rfl, rfl, rfl, rfl, rfl, rfl, rfl, rfl, rfl, trivial⟩, ⟨rfl, rfl, trivial⟩⟩, fun q hq => ?_⟩
      obtain ⟨x, b⟩ := q
      obtain ⟨hx, hb'⟩ := hq
      dsimp only at hx hb'
      cases b
      · conv => whnf
        (refine br_intro (fun h2 => ?_) (fun h2 => ?_) <;> (conv => whnf))
        · have h2 : x < w := by simp at h2; omega
          have hxy : y * w + x < h * w := by
            have := Nat.mul_le_mul_right w (show y + 1 ≤ h by omega)
            rw [Nat.succ_mul] at this; omega
          repeat (first
            | (refine ⟨⟨by kernel_rfl, by kernel_rfl⟩, ?_⟩; conv => whnf)
            | (refine And.intro (by first | omega | (simp; done) | (simp; omega)) ?_; conv => whnf)
            | (refine Or.inl (And.intro (by omega) ?_); conv => whnf)
            | (refine Exists.intro _ (And.intro (hf x y _ _ _ h2 h1) ?_); conv => whnf))
          refine ⟨(x + 1, false), ren [(400, 116)], ⟨⟨h2, fun e => by cases e⟩, by dsimp only; omega⟩, rfl, ⟨rfl, rfl, rfl, rfl, rfl, rfl, rfl, rfl, rfl, trivial⟩, ⟨rfl, rfl, rfl, trivial⟩⟩
        · have h2 : x = w := by simp at h2; omega
          subst h2
          repeat (first
            | (refine ⟨⟨by kernel_rfl, by kernel_rfl⟩, ?_⟩; conv => whnf)
            | (refine And.intro (by first | omega | (simp; done) | (simp; omega)) ?_; conv => whnf)
            | (refine Or.inl (And.intro (by omega) ?_); conv => whnf))
          refine ⟨(y + 1, false), id, ⟨⟨h1, fun e => by cases e⟩, by dsimp only; omega⟩, rfl, ⟨rfl, rfl, rfl, rfl, rfl, rfl, trivial⟩, ⟨rfl, rfl, congrArg (fun n => KS.live (Blk.tab .f32 (tabN G n))) (Nat.succ_mul y x).symm, trivial⟩⟩
      · obtain ⟨rfl, rfl⟩ := hb' rfl
        conv => whnf
        (refine br_intro (fun h2 => ?_) (fun h2 => ?_) <;> (conv => whnf))
        · have h2 : 0 < w := by omega
          repeat (first
            | (refine ⟨⟨by kernel_rfl, by kernel_rfl⟩, ?_⟩; conv => whnf)
            | (refine And.intro (by first | omega | (simp; done) | (simp; omega)) ?_; conv => whnf)
            | (refine Or.inl (And.intro (by omega) ?_); conv => whnf)
            | (refine Exists.intro _ (And.intro (hf 0 0 _ _ _ h2 h1) ?_); conv => whnf))
          refine ⟨(1, false), ren [(400, 116)], ⟨⟨h2, fun e => by cases e⟩, by dsimp only; omega⟩, rfl, ⟨rfl, rfl, rfl, rfl, rfl, rfl, rfl, rfl, rfl, trivial⟩, ⟨rfl, rfl, congrArg (fun l => KS.live (Blk.tab .f32 l)) (show [G (0 * w + 0)] = tabN G (0 * w + 1) by rw [Nat.zero_mul]; rfl), trivial⟩⟩
        · exfalso; simp at h2; omega
    · exfalso; have := hb rfl; simp at h1; omega
theorem iMadeC4 {w h : Nat} {f : FuncId} {G : Nat → Nat} {W H : Int} {a b : Nat} {t t' t2 t3 : AV} (hw : 1 ≤ w ∧ w ≤ 16) (hh : 1 ≤ h ∧ h ≤ 16) (hf : ∀ (x y : Nat) (t t' t2 t3 : AV), x < w → y < h → Does Try.prog f [.int .i64 x, .int .i64 y, .ref [.int .i64 W] t, .ref [.int .i64 H] t', .ref [.flt .f32 a] t2, .ref [.flt .f32 b] t3] (.flt .f32 (G (y * w + x)))) :
    Does Try.prog 22 [.int .i64 w, .int .i64 h, .fn f [.ref [.int .i64 W] t, .ref [.int .i64 H] t', .ref [.flt .f32 a] t2, .ref [.flt .f32 b] t3]] (.tup [.agg [.int .i64 (selI (hillB w h (tabN G (h * w))) w), .int .i64 (selI (hillB w h (tabN G (h * w))) h), .own 0 .f32 (bif hillB w h (tabN G (h * w)) then tabN G (h * w) else [])], .bool (hillB w h (tabN G (h * w)))]) := by
  have hm : h * w ≤ 256 := Nat.mul_le_mul hh.2 hw.2
  refine Does.of_awp (X := cx 37) Try.func22 rfl (by kernel_rfl) rfl (by simp [cx]) [400] rfl ?_
  conv => whnf
  repeat (first
    | (refine ⟨⟨by kernel_rfl, by kernel_rfl⟩, ?_⟩; conv => whnf)
    | (refine And.intro (by first | omega | (simp; done) | (simp; omega)) ?_; conv => whnf)
    | (refine Or.inl (And.intro (by omega) ?_); conv => whnf))
  refine ⟨Nat × Bool, fun p => p.1 ≤ h ∧ (p.2 = true → p.1 = 0), fun p => [(0, .int .i64 w), (2, .fn f [.ref [.int .i64 W] t, .ref [.int .i64 H] t', .ref [.flt .f32 a] t2, .ref [.flt .f32 b] t3]), (6, .loc 24 0), (8, .loc 32 0), (14, .int .i64 h), (15, .int .i64 p.1)], fun p => bif p.2 then [(24, .av [.int .i64 0, .int .i64 0, .emp .f32]), (32, .av [.int .i64 w, .int .i64 h, .emp .f32])] else [(24, .av [.int .i64 0, .int .i64 0, .emp .f32]), (32, .av [.int .i64 w, .int .i64 h, .osl 400]), (400, .tab .f32 (tabN G (p.1 * w)))], fun p => h - p.1, ⟨(0, true), id, ⟨Nat.zero_le _, fun _ => rfl⟩, rfl, ⟨rfl, rfl, rfl, rfl, rfl, rfl, trivial⟩, ⟨rfl, rfl, trivial⟩⟩, fun p hp => ?_⟩
  obtain ⟨y, b⟩ := p
  obtain ⟨hy, hb⟩ := hp
  dsimp only at hy hb
  cases b
  · conv => whnf
    (refine br_intro (fun h1 => ?_) (fun h1 => ?_) <;> (conv => whnf))
    · have h1 : y < h := by simp at h1; omega
      repeat (first
        | (refine ⟨⟨by kernel_rfl, by kernel_rfl⟩, ?_⟩; conv => whnf)
        | (refine And.intro (by first | omega | (simp; done) | (simp; omega)) ?_; conv => whnf)
        | (refine Or.inl (And.intro (by omega) ?_); conv => whnf))
      refine ⟨Nat × Bool, fun q => q.1 ≤ w ∧ (q.2 = true → y = 0 ∧ q.1 = 0), fun q => [(0, .int .i64 w), (2, .fn f [.ref [.int .i64 W] t, .ref [.int .i64 H] t', .ref [.flt .f32 a] t2, .ref [.flt .f32 b] t3]), (6, .loc 24 0), (8, .loc 32 0), (14, .int .i64 h), (15, .int .i64 y), (9, .int .i64 y), (18, .int .i64 w), (19, .int .i64 q.1)], fun q => bif q.2 then [(24, .av [.int .i64 0, .int .i64 0, .emp .f32]), (32, .av [.int .i64 w, .int .i64 h, .emp .f32])] else [(24, .av [.int .i64 0, .int .i64 0, .emp .f32]), (32, .av [.int .i64 w, .int .i64 h, .osl 400]), (400, .tab .f32 (tabN G (y * w + q.1)))], fun q => w - q.1, ⟨(0, false), id, ⟨Nat.zero_le _, fun e => ⟨hb e, rfl⟩⟩, rfl, ⟨rfl, rfl, rfl, rfl, rfl, rfl, rfl, rfl, rfl, trivial⟩, ⟨rfl, rfl, rfl, trivial⟩⟩, fun q hq => ?_⟩
      obtain ⟨x, b⟩ := q
      obtain ⟨hx, hb'⟩ := hq
      dsimp only at hx hb'
      cases b
      · conv => whnf
        (refine br_intro (fun h2 => ?_) (fun h2 => ?_) <;> (conv => whnf))
        · have h2 : x < w := by simp at h2; omega
          have hxy : y * w + x < h * w := by
            have := Nat.mul_le_mul_right w (show y + 1 ≤ h by omega)
            rw [Nat.succ_mul] at this; omega
          repeat (first
            | (refine ⟨⟨by kernel_rfl, by kernel_rfl⟩, ?_⟩; conv => whnf)
            | (refine And.intro (by first | omega | (simp; done) | (simp; omega)) ?_; conv => whnf)
            | (refine Or.inl (And.intro (by omega) ?_); conv => whnf)
            | (refine Exists.intro _ (And.intro (hf x y _ _ _ _ h2 h1) ?_); conv => whnf))
          refine ⟨(x + 1, false), ren [(400, 116)], ⟨⟨h2, fun e => by cases e⟩, by dsimp only; omega⟩, rfl, ⟨rfl, rfl, rfl, rfl, rfl, rfl, rfl, rfl, rfl, trivial⟩, ⟨rfl, rfl, rfl, trivial⟩⟩
        · have h2 : x = w := by simp at h2; omega
          subst h2
          repeat (first
            | (refine ⟨⟨by kernel_rfl, by kernel_rfl⟩, ?_⟩; conv => whnf)
            | (refine And.intro (by first | omega | (simp; done) | (simp; omega)) ?_; conv => whnf)
            | (refine Or.inl (And.intro (by omega) ?_); conv => whnf))
          refine ⟨(y + 1, false), id, ⟨⟨h1, fun e => by cases e⟩, by dsimp only; omega⟩, rfl, ⟨rfl, rfl, rfl, rfl, rfl, rfl, trivial⟩, ⟨rfl, rfl, congrArg (fun n => KS.live (Blk.tab .f32 (tabN G n))) (Nat.succ_mul y x).symm, trivial⟩⟩
      · obtain ⟨rfl, rfl⟩ := hb' rfl
        conv => whnf
        (refine br_intro (fun h2 => ?_) (fun h2 => ?_) <;> (conv => whnf))
        · have h2 : 0 < w := by omega
          repeat (first
            | (refine ⟨⟨by kernel_rfl, by kernel_rfl⟩, ?_⟩; conv => whnf)
            | (refine And.intro (by first | omega | (simp; done) | (simp; omega)) ?_; conv => whnf)
            | (refine Or.inl (And.intro (by omega) ?_); conv => whnf)
            | (refine Exists.intro _ (And.intro (hf 0 0 _ _ _ _ h2 h1) ?_); conv => whnf))
          refine ⟨(1, false), ren [(400, 116)], ⟨⟨h2, fun e => by cases e⟩, by dsimp only; omega⟩, rfl, ⟨rfl, rfl, rfl, rfl, rfl, rfl, rfl, rfl, rfl, trivial⟩, ⟨rfl, rfl, congrArg (fun l => KS.live (Blk.tab .f32 l)) (show [G (0 * w + 0)] = tabN G (0 * w + 1) by rw [Nat.zero_mul]; rfl), trivial⟩⟩
        · exfalso; simp at h2; omega
    · have h1 : y = h := by simp at h1; omega
      subst h1
      repeat (first
        | (refine ⟨⟨by kernel_rfl, by kernel_rfl⟩, ?_⟩; conv => whnf)
        | (refine And.intro (by first | omega | (simp; done) | (simp; omega)) ?_; conv => whnf)
        | (refine Or.inl (And.intro (by omega) ?_); conv => whnf))
      have hl : (tabN G (y * w)).length = y * w := tabN_len _ _
      cases hG : hillB w y (tabN G (y * w)) with
      | true =>
        have e := iGive (t := .osl 400) (by omega) hG
        repeat (first
          | (refine ⟨⟨by kernel_rfl, by kernel_rfl⟩, ?_⟩; conv => whnf)
          | (refine And.intro (by first | omega | (simp; done) | (simp; omega)) ?_; conv => whnf)
          | (refine Or.inl (And.intro (by omega) ?_); conv => whnf)
          | (refine Exists.intro _ (And.intro (e) ?_); conv => whnf))
        all_goals (try (conv => whnf))
        all_goals (repeat' (first | exact True.intro | (refine And.intro ?_ ?_ <;> (conv => whnf))))
        all_goals (first | rfl | (simp_all [selI]; done) | (simp only [selI, cond_true, cond_false, Bool.and_true, Bool.true_and, Bool.and_false, Bool.false_and]; rfl) | (simp_all [selI]; omega))
      | false =>
        have e := iGive' (t := .osl 400) (by omega) hG
        repeat (first
          | (refine ⟨⟨by kernel_rfl, by kernel_rfl⟩, ?_⟩; conv => whnf)
          | (refine And.intro (by first | omega | (simp; done) | (simp; omega)) ?_; conv => whnf)
          | (refine Or.inl (And.intro (by omega) ?_); conv => whnf)
          | (refine Exists.intro _ (And.intro (e) ?_); conv => whnf))
        all_goals (try (conv => whnf))
        all_goals (repeat' (first | exact True.intro | (refine And.intro ?_ ?_ <;> (conv => whnf))))
        all_goals (first | rfl | (simp_all [selI]; done) | (simp only [selI, cond_true, cond_false, Bool.and_true, Bool.true_and, Bool.and_false, Bool.false_and]; rfl) | (simp_all [selI]; omega))
  · conv => whnf
    (refine br_intro (fun h1 => ?_) (fun h1 => ?_) <;> (conv => whnf))
    · have h1 : y < h := by simp at h1; omega
      repeat (first
        | (refine ⟨⟨by kernel_rfl, by kernel_rfl⟩, ?_⟩; conv => whnf)
        | (refine And.intro (by first | omega | (simp; done) | (simp; omega)) ?_; conv => whnf)
        | (refine Or.inl (And.intro (by omega) ?_); conv => whnf))
      refine ⟨Nat × Bool, fun q => q.1 ≤ w ∧ (q.2 = true → y = 0 ∧ q.1 = 0), fun q => [(0, .int .i64 w), (2, .fn f [.ref [.int .i64 W] t, .ref [.int .i64 H] t', .ref [.flt .f32 a] t2, .ref [.flt .f32 b] t3]), (6, .loc 24 0), (8, .loc 32 0), (14, .int .i64 h), (15, .int .i64 y), (9, .int .i64 y), (18, .int .i64 w), (19, .int .i64 q.1)], fun q => bif q.2 then [(24, .av [.int .i64 0, .int .i64 0, .emp .f32]), (32, .av [.int .i64 w, .int .i64 h, .emp .f32])] else [(24, .av [.int .i64 0, .int .i64 0, .emp .f32]), (32, .av [.int .i64 w, .int .i64 h, .osl 400]), (400, .tab .f32 (tabN G (y * w + q.1)))], fun q => w - q.1, ⟨(0, true), id, ⟨Nat.zero_le _, fun e => ⟨hb e, rfl⟩⟩, rfl, ⟨rfl, rfl, rfl, rfl, rfl, rfl, rfl, rfl, rfl, trivial⟩, ⟨rfl, rfl, trivial⟩⟩, fun q hq => ?_⟩
      obtain ⟨x, b⟩ := q
      obtain ⟨hx, hb'⟩ := hq
      dsimp only at hx hb'
      cases b
      · conv => whnf
        (refine br_intro (fun h2 => ?_) (fun h2 => ?_) <;> (conv => whnf))
        · have h2 : x < w := by simp at h2; omega
          have hxy : y * w + x < h * w := by
            have := Nat.mul_le_mul_right w (show y + 1 ≤ h by omega)
            rw [Nat.succ_mul] at this; omega
          repeat (first
            | (refine ⟨⟨by kernel_rfl, by kernel_rfl⟩, ?_⟩; conv => whnf)
            | (refine And.intro (by first | omega | (simp; done) | (simp; omega)) ?_; conv => whnf)
            | (refine Or.inl (And.intro (by omega) ?_); conv => whnf)
            | (refine Exists.intro _ (And.intro (hf x y _ _ _ _ h2 h1) ?_); conv => whnf))
          refine ⟨(x + 1, false), ren [(400, 116)], ⟨⟨h2, fun e => by cases e⟩, by dsimp only; omega⟩, rfl, ⟨rfl, rfl, rfl, rfl, rfl, rfl, rfl, rfl, rfl, trivial⟩, ⟨rfl, rfl, rfl, trivial⟩⟩
        · have h2 : x = w := by simp at h2; omega
          subst h2
          repeat (first
            | (refine ⟨⟨by kernel_rfl, by kernel_rfl⟩, ?_⟩; conv => whnf)
            | (refine And.intro (by first | omega | (simp; done) | (simp; omega)) ?_; conv => whnf)
            | (refine Or.inl (And.intro (by omega) ?_); conv => whnf))
          refine ⟨(y + 1, false), id, ⟨⟨h1, fun e => by cases e⟩, by dsimp only; omega⟩, rfl, ⟨rfl, rfl, rfl, rfl, rfl, rfl, trivial⟩, ⟨rfl, rfl, congrArg (fun n => KS.live (Blk.tab .f32 (tabN G n))) (Nat.succ_mul y x).symm, trivial⟩⟩
      · obtain ⟨rfl, rfl⟩ := hb' rfl
        conv => whnf
        (refine br_intro (fun h2 => ?_) (fun h2 => ?_) <;> (conv => whnf))
        · have h2 : 0 < w := by omega
          repeat (first
            | (refine ⟨⟨by kernel_rfl, by kernel_rfl⟩, ?_⟩; conv => whnf)
            | (refine And.intro (by first | omega | (simp; done) | (simp; omega)) ?_; conv => whnf)
            | (refine Or.inl (And.intro (by omega) ?_); conv => whnf)
            | (refine Exists.intro _ (And.intro (hf 0 0 _ _ _ _ h2 h1) ?_); conv => whnf))
          refine ⟨(1, false), ren [(400, 116)], ⟨⟨h2, fun e => by cases e⟩, by dsimp only; omega⟩, rfl, ⟨rfl, rfl, rfl, rfl, rfl, rfl, rfl, rfl, rfl, trivial⟩, ⟨rfl, rfl, congrArg (fun l => KS.live (Blk.tab .f32 l)) (show [G (0 * w + 0)] = tabN G (0 * w + 1) by rw [Nat.zero_mul]; rfl), trivial⟩⟩
        · exfalso; simp at h2; omega
    · exfalso; have := hb rfl; simp at h1; omega

end Go.Proofs.Ytagiajolklbbiaa
