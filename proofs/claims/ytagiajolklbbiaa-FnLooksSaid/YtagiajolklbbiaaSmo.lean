/- What each function of this seat does (Smo). Printed from templates of this seat's own. -/
import Derived.Test.YtagiajolklbbiaaNea
namespace Go.Proofs.Ytagiajolklbbiaa
open Go.Ax Go.Bx
set_option maxRecDepth 8000
set_option linter.unusedSimpArgs false
set_option linter.unusedVariables false
section
variable (W H : Int) (xs : List Nat) (c : Int)
noncomputable def smF (a : Nat) (r : Int × Nat) : Nat := fop .add .f32 a (xs.getD r.1.toNat 0)
noncomputable def smI : Nat := fop .add .f32 (canon .f32 0) (xs.getD c.toNat 0)
noncomputable def smS (k : Nat) : Nat := (nbL W H c k).foldl (smF xs) (smI xs c)
noncomputable def smV : Nat := fop .quo .f32 (smS W H xs c 8) (foi .f32 ((nbL W H c 8).length + 1))
noncomputable def smL : List Nat := tabN (fun i => smV W H xs (i : Nat)) (W * H).toNat
end
theorem smS_no {W H c : Int} {xs : List Nat} {k : Nat} (h : nbOk W H c k = false) : smS W H xs c k = smS W H xs c (k + 1) := by
  unfold smS; rw [← nbL_no h]
theorem smS_yes {W H c : Int} {xs : List Nat} {k : Nat} (h : nbOk W H c k = true) : fop .add .f32 (smS W H xs c k) (xs.getD (nbC W c k).toNat 0) = smS W H xs c (k + 1) := by
  unfold smS; rw [← nbL_yes h, List.foldl_append]; rfl
theorem nbAt_neg {W H c : Int} {k : Nat} (h : nbOk W H c k = false) : nbAt W H c k = -1 := by unfold nbAt; rw [h]; rfl
theorem nbAt_pos {W H c : Int} {k : Nat} (h : nbOk W H c k = true) : nbAt W H c k = nbC W c k := by unfold nbAt; rw [h]; rfl
theorem nearL_getD {W H c : Int} {k : Nat} (h : k < 8) : (nearL W H c).getD k 0 = nbAt W H c k := tabN_getD _ h _
noncomputable def hlC (W H : Int) (xs out : List Nat) : Bool := hillB W H xs && hillB W H out
noncomputable def hlO (W H : Int) (xs out : List Nat) : List Nat := bif hlC W H xs out then out else []
noncomputable def hlR (W H : Int) (xs out : List Nat) : AV := .tup [.agg [.int .i64 (selI (hlC W H xs out) W), .int .i64 (selI (hlC W H xs out) H), .own 0 .f32 (hlO W H xs out)], .bool (hlC W H xs out)]


theorem iMade {w h : Nat} {xs : List Nat} {f : FuncId} {G : Nat → Nat} {W H : Int} {t t' : AV} (hw : 1 ≤ w ∧ w ≤ 16) (hh : 1 ≤ h ∧ h ≤ 16) (hf : ∀ (x y : Nat) (t t' : AV), x < w → y < h → Does Try.prog f [.int .i64 x, .int .i64 y, .ref [.int .i64 W, .int .i64 H, .sli .f32 xs t] t'] (.flt .f32 (G (y * w + x)))) :
    Does Try.prog 22 [.int .i64 w, .int .i64 h, .fn f [.ref [.int .i64 W, .int .i64 H, .sli .f32 xs t] t']] (.tup [.agg [.int .i64 (selI (hillB w h (tabN G (h * w))) w), .int .i64 (selI (hillB w h (tabN G (h * w))) h), .own 0 .f32 (bif hillB w h (tabN G (h * w)) then tabN G (h * w) else [])], .bool (hillB w h (tabN G (h * w)))]) := by
  have hm : h * w ≤ 256 := Nat.mul_le_mul hh.2 hw.2
  refine Does.of_awp (X := cx 37) Try.func22 rfl (by kernel_rfl) rfl (by simp [cx]) [400] rfl ?_
  conv => whnf
  repeat (first
    | (refine ⟨⟨by kernel_rfl, by kernel_rfl⟩, ?_⟩; conv => whnf)
    | (refine And.intro (by first | omega | (simp; done) | (simp; omega)) ?_; conv => whnf)
    | (refine Or.inl (And.intro (by omega) ?_); conv => whnf))
  refine ⟨Nat × Bool, fun p => p.1 ≤ h ∧ (p.2 = true → p.1 = 0), fun p => [(0, .int .i64 w), (2, .fn f [.ref [.int .i64 W, .int .i64 H, .sli .f32 xs t] t']), (6, .loc 24 0), (8, .loc 32 0), (14, .int .i64 h), (15, .int .i64 p.1)], fun p => bif p.2 then [(24, .av [.int .i64 0, .int .i64 0, .emp .f32]), (32, .av [.int .i64 w, .int .i64 h, .emp .f32])] else [(24, .av [.int .i64 0, .int .i64 0, .emp .f32]), (32, .av [.int .i64 w, .int .i64 h, .osl 400]), (400, .tab .f32 (tabN G (p.1 * w)))], fun p => h - p.1, ⟨(0, true), id, ⟨Nat.zero_le _, fun _ => rfl⟩, rfl, ⟨rfl, rfl, rfl, rfl, rfl, rfl, trivial⟩, ⟨rfl, rfl, trivial⟩⟩, fun p hp => ?_⟩
  obtain ⟨y, b⟩ := p
  obtain ⟨hy, hb⟩ := hp
  dsimp only at hy hb
  cases b
  · conv => whnf
    (refine br_intro (fun h1 => ?_) (fun h1 => ?_) <;> (conv => whnf))
    · have h1 : y < h := by simp at h1; omega
      repeat (first
        | (refine ⟨⟨by kernel_rfl, by kernel_rfl⟩, ?_⟩; conv => whnf)
        | (refine And.intro (by first | omega | (simp; done) | (simp; omega)) ?_; conv => whnf)
        | (refine Or.inl (And.intro (by omega) ?_); conv => whnf))
      refine ⟨Nat × Bool, fun q => q.1 ≤ w ∧ (q.2 = true → y = 0 ∧ q.1 = 0), fun q => [(0, .int .i64 w), (2, .fn f [.ref [.int .i64 W, .int .i64 H, .sli .f32 xs t] t']), (6, .loc 24 0), (8, .loc 32 0), (14, .int .i64 h), (15, .int .i64 y), (9, .int .i64 y), (18, .int .i64 w), (19, .int .i64 q.1)], fun q => bif q.2 then [(24, .av [.int .i64 0, .int .i64 0, .emp .f32]), (32, .av [.int .i64 w, .int .i64 h, .emp .f32])] else [(24, .av [.int .i64 0, .int .i64 0, .emp .f32]), (32, .av [.int .i64 w, .int .i64 h, .osl 400]), (400, .tab .f32 (tabN G (y * w + q.1)))], fun q => w - q.1, ⟨(0, false), id, ⟨Nat.zero_le _, fun e => ⟨hb e, rfl⟩⟩, rfl, ⟨rfl, rfl, rfl, rfl, rfl, rfl, rfl, rfl, rfl, trivial⟩, ⟨rfl, rfl, rfl, trivial⟩⟩, fun q hq => ?_⟩
      obtain ⟨x, b⟩ := q
      obtain ⟨hx, hb'⟩ := hq
      dsimp only at hx hb'
      cases b
      · conv => whnf
        (refine br_intro (fun h2 => ?_) (fun h2 => ?_) <;> (conv => whnf))
        · have h2 : x < w := by simp at h2; omega
          have hxy : y * w + x < h * w := by
            have := Nat.mul_le_mul_right w (show y + 1 ≤ h by omega)
            rw [Nat.succ_mul] at this; omega
          repeat (first
            | (refine ⟨⟨by kernel_rfl, by kernel_rfl⟩, ?_⟩; conv => whnf)
            | (refine And.intro (by first | omega | (simp; done) | (simp; omega)) ?_; conv => whnf)
            | (refine Or.inl (And.intro (by omega) ?_); conv => whnf)
            | (refine Exists.intro _ (And.intro (hf x y _ _ h2 h1) ?_); conv => whnf))
          refine ⟨(x + 1, false), ren [(400, 116)], ⟨⟨h2, fun e => by cases e⟩, by dsimp only; omega⟩, rfl, ⟨rfl, rfl, rfl, rfl, rfl, rfl, rfl, rfl, rfl, trivial⟩, ⟨rfl, rfl, rfl, trivial⟩⟩
        · have h2 : x = w := by simp at h2; omega
          subst h2
          repeat (first
            | (refine ⟨⟨by kernel_rfl, by kernel_rfl⟩, ?_⟩; conv => whnf)
            | (refine And.intro (by first | omega | (simp; done) | (simp; omega)) ?_; conv => whnf)
            | (refine Or.inl (And.intro (by omega) ?_); conv => whnf))
          refine ⟨(y + 1, false), id, ⟨⟨h1, fun e => by cases e⟩, by dsimp only; omega⟩, rfl, ⟨rfl, rfl, rfl, rfl, rfl, rfl, trivial⟩, ⟨rfl, rfl, congrArg (fun n => KS.live (Blk.tab .f32 (tabN G n))) (Nat.succ_mul y x).symm, trivial⟩⟩
      · obtain ⟨rfl, rfl⟩ := hb' rfl
        conv => whnf
        (refine br_intro (fun h2 => ?_) (fun h2 => ?_) <;> (conv => whnf))
        · have h2 : 0 < w := by omega
          repeat (first
            | (refine ⟨⟨by kernel_rfl, by kernel_rfl⟩, ?_⟩; conv => whnf)
            | (refine And.intro (by first | omega | (simp; done) | (simp; omega)) ?_; conv => whnf)
            | (refine Or.inl (And.intro (by omega) ?_); conv => whnf)
            | (refine Exists.intro _ (And.intro (hf 0 0 _ _ h2 h1) ?_); conv => whnf))
          refine ⟨(1, false), ren [(400, 116)], ⟨⟨h2, fun e => by cases e⟩, by dsimp only; omega⟩, rfl, ⟨rfl, rfl, rfl, rfl, rfl, rfl, rfl, rfl, rfl, trivial⟩, ⟨rfl, rfl, congrArg (fun l => KS.live (Blk.tab .f32 l)) (show [G (0 * w + 0)] = tabN G (0 * w + 1) by rw [Nat.zero_mul]; rfl), trivial⟩⟩
        · exfalso; simp at h2; omega
    · have h1 : y = h := by simp at h1; omega
      subst h1
      repeat (first
        | (refine ⟨⟨by kernel_rfl, by kernel_rfl⟩, ?_⟩; conv => whnf)
        | (refine And.intro (by first | omega | (simp; done) | (simp; omega)) ?_; conv => whnf)
        | (refine Or.inl (And.intro (by omega) ?_); conv => whnf))
      have hl : (tabN G (y * w)).length = y * w := tabN_len _ _
      cases hG : hillB w y (tabN G (y * w)) with
      | true =>
        have e := iGive (t := .osl 400) (by omega) hG
        repeat (first
          | (refine ⟨⟨by kernel_rfl, by kernel_rfl⟩, ?_⟩; conv => whnf)
          | (refine And.intro (by first | omega | (simp; done) | (simp; omega)) ?_; conv => whnf)
          | (refine Or.inl (And.intro (by omega) ?_); conv => whnf)
          | (refine Exists.intro _ (And.intro (e) ?_); conv => whnf))
        all_goals (try (conv => whnf))
        all_goals (repeat' (first | exact True.intro | (refine And.intro ?_ ?_ <;> (conv => whnf))))
        all_goals (first | rfl | (simp_all [selI]; done) | (simp only [selI, cond_true, cond_false, Bool.and_true, Bool.true_and, Bool.and_false, Bool.false_and]; rfl) | (simp_all [selI]; omega))
      | false =>
        have e := iGive' (t := .osl 400) (by omega) hG
        repeat (first
          | (refine ⟨⟨by kernel_rfl, by kernel_rfl⟩, ?_⟩; conv => whnf)
          | (refine And.intro (by first | omega | (simp; done) | (simp; omega)) ?_; conv => whnf)
          | (refine Or.inl (And.intro (by omega) ?_); conv => whnf)
          | (refine Exists.intro _ (And.intro (e) ?_); conv => whnf))
        all_goals (try (conv => whnf))
        all_goals (repeat' (first | exact True.intro | (refine And.intro ?_ ?_ <;> (conv => whnf))))
        all_goals (first | rfl | (simp_all [selI]; done) | (simp only [selI, cond_true, cond_false, Bool.and_true, Bool.true_and, Bool.and_false, Bool.false_and]; rfl) | (simp_all [selI]; omega))
  · conv => whnf
    (refine br_intro (fun h1 => ?_) (fun h1 => ?_) <;> (conv => whnf))
    · have h1 : y < h := by simp at h1; omega
      repeat (first
        | (refine ⟨⟨by kernel_rfl, by kernel_rfl⟩, ?_⟩; conv => whnf)
        | (refine And.intro (by first | omega | (simp; done) | (simp; omega)) ?_; conv => whnf)
        | (refine Or.inl (And.intro (by omega) ?_); conv => whnf))
      refine ⟨Nat × Bool, fun q => q.1 ≤ w ∧ (q.2 = true → y = 0 ∧ q.1 = 0), fun q => [(0, .int .i64 w), (2, .fn f [.ref [.int .i64 W, .int .i64 H, .sli .f32 xs t] t']), (6, .loc 24 0), (8, .loc 32 0), (14, .int .i64 h), (15, .int .i64 y), (9, .int .i64 y), (18, .int .i64 w), (19, .int .i64 q.1)], fun q => bif q.2 then [(24, .av [.int .i64 0, .int .i64 0, .emp .f32]), (32, .av [.int .i64 w, .int .i64 h, .emp .f32])] else [(24, .av [.int .i64 0, .int .i64 0, .emp .f32]), (32, .av [.int .i64 w, .int .i64 h, .osl 400]), (400, .tab .f32 (tabN G (y * w + q.1)))], fun q => w - q.1, ⟨(0, true), id, ⟨Nat.zero_le _, fun e => ⟨hb e, rfl⟩⟩, rfl, ⟨rfl, rfl, rfl, rfl, rfl, rfl, rfl, rfl, rfl, trivial⟩, ⟨rfl, rfl, trivial⟩⟩, fun q hq => ?_⟩
      obtain ⟨x, b⟩ := q
      obtain ⟨hx, hb'⟩ := hq
      dsimp only at hx hb'
      cases b
      · conv => whnf
        (refine br_intro (fun h2 => ?_) (fun h2 => ?_) <;> (conv => whnf))
        · have h2 : x < w := by simp at h2; omega
          have hxy : y * w + x < h * w := by
            have := Nat.mul_le_mul_right w (show y + 1 ≤ h by omega)
            rw [Nat.succ_mul] at this; omega
          repeat (first
            | (refine ⟨⟨by kernel_rfl, by kernel_rfl⟩, ?_⟩; conv => whnf)
            | (refine And.intro (by first | omega | (simp; done) | (simp; omega)) ?_; conv => whnf)
            | (refine Or.inl (And.intro (by omega) ?_); conv => whnf)
            | (refine Exists.intro _ (And.intro (hf x y _ _ h2 h1) ?_); conv => whnf))
          refine ⟨(x + 1, false), ren [(400, 116)], ⟨⟨h2, fun e => by cases e⟩, by dsimp only; omega⟩, rfl, ⟨rfl, rfl, rfl, rfl, rfl, rfl, rfl, rfl, rfl, trivial⟩, ⟨rfl, rfl, rfl, trivial⟩⟩
        · have h2 : x = w := by simp at h2; omega
          subst h2
          repeat (first
            | (refine ⟨⟨by kernel_rfl, by kernel_rfl⟩, ?_⟩; conv => whnf)
            | (refine And.intro (by first | omega | (simp; done) | (simp; omega)) ?_; conv => whnf)
            | (refine Or.inl (And.intro (by omega) ?_); conv => whnf))
          refine ⟨(y + 1, false), id, ⟨⟨h1, fun e => by cases e⟩, by dsimp only; omega⟩, rfl, ⟨rfl, rfl, rfl, rfl, rfl, rfl, trivial⟩, ⟨rfl, rfl, congrArg (fun n => KS.live (Blk.tab .f32 (tabN G n))) (Nat.succ_mul y x).symm, trivial⟩⟩
      · obtain ⟨rfl, rfl⟩ := hb' rfl
        conv => whnf
        (refine br_intro (fun h2 => ?_) (fun h2 => ?_) <;> (conv => whnf))
        · have h2 : 0 < w := by omega
          repeat (first
            | (refine ⟨⟨by kernel_rfl, by kernel_rfl⟩, ?_⟩; conv => whnf)
            | (refine And.intro (by first | omega | (simp; done) | (simp; omega)) ?_; conv => whnf)
            | (refine Or.inl (And.intro (by omega) ?_); conv => whnf)
            | (refine Exists.intro _ (And.intro (hf 0 0 _ _ h2 h1) ?_); conv => whnf))
          refine ⟨(1, false), ren [(400, 116)], ⟨⟨h2, fun e => by cases e⟩, by dsimp only; omega⟩, rfl, ⟨rfl, rfl, rfl, rfl, rfl, rfl, rfl, rfl, rfl, trivial⟩, ⟨rfl, rfl, congrArg (fun l => KS.live (Blk.tab .f32 l)) (show [G (0 * w + 0)] = tabN G (0 * w + 1) by rw [Nat.zero_mul]; rfl), trivial⟩⟩
        · exfalso; simp at h2; omega
    · exfalso; have := hb rfl; simp at h1; omega

theorem nbL_mem {W H c : Int} (hW : 1 ≤ W) : ∀ {k : Nat} {r : Int × Nat}, r ∈ nbL W H c k → 0 ≤ r.1 ∧ r.1 < W * H
  | 0, _, h => by cases h
  | k + 1, r, h => by
    cases hO : nbOk W H c k with
    | false => rw [← nbL_no hO] at h; exact nbL_mem hW h
    | true =>
      rw [← nbL_yes hO, List.mem_append] at h
      rcases h with h | h
      · exact nbL_mem hW h
      · rw [List.mem_singleton] at h; subst h; exact nbC_range hW hO
theorem getD_mem {α : Type} {l : List α} {j : Nat} (h : j < l.length) (d : α) : l.getD j d ∈ l := by
  rw [List.getD_eq_getElem?_getD, List.getElem?_eq_getElem h]
  exact List.getElem_mem h

theorem iSmooth1 {W H x y : Int} {xs : List Nat} {t t' : AV} (hl : (xs.length : Int) = W * H) (hC : Cel W H (y * W + x)) (hx : 0 ≤ x ∧ x < W) : Does Try.prog 24 [.int .i64 x, .int .i64 y, .ref [.int .i64 W, .int .i64 H, .sli .f32 xs t] t'] (.flt .f32 (smV W H xs (y * W + x))) := by
  have hC' := hC
  obtain ⟨⟨k1, k2, k3, k4⟩, k5, k6⟩ := hC'
  obtain ⟨f1, f2, f3, f4, f5⟩ := hC.fact
  have hlen := nbL_len W H (y * W + x) 8
  refine Does.of_awp (X := cx 47) Try.func24 rfl (by kernel_rfl) rfl (by simp [cx]) [] rfl ?_
  conv => whnf
  repeat (first
    | (refine ⟨⟨by kernel_rfl, by kernel_rfl⟩, ?_⟩; conv => whnf)
    | (refine And.intro (by first | omega | (simp; done) | (simp; omega)) ?_; conv => whnf)
    | (refine Or.inl (And.intro (by omega) ?_); conv => whnf)
    | (refine Exists.intro _ (And.intro (iNbrs hC) ?_); conv => whnf))
  refine ⟨Nat, fun j => j ≤ (nbL W H (y * W + x) 8).length, fun j => [(2, .ref [.int .i64 W, .int .i64 H, .sli .f32 xs t] t'), (7, .flt .f32 (fo (smF xs) (smI xs (y * W + x)) (nbL W H (y * W + x) 8) j)), (8, .osl 100), (26, .osl 100), (27, .int .i64 (nbL W H (y * W + x) 8).length), (28, .int .i64 j)], fun j => [(100, .tab .nb (nbL W H (y * W + x) 8))], fun j => (nbL W H (y * W + x) 8).length - j, ⟨0, id, Nat.zero_le _, rfl, ⟨rfl, rfl, rfl, rfl, rfl, rfl, trivial⟩, ⟨rfl, trivial⟩⟩, fun j hj => ?_⟩
  conv => whnf
  (refine br_intro (fun h => ?_) (fun h => ?_) <;> (conv => whnf))
  · have h : j < (nbL W H (y * W + x) 8).length := by simp at h; omega
    have hr : 0 ≤ ((nbL W H (y * W + x) 8).getD (j : Int).toNat RK.nb.z).1 ∧ ((nbL W H (y * W + x) 8).getD (j : Int).toNat RK.nb.z).1 < W * H := nbL_mem k1 (getD_mem h _)
    repeat (first
      | (refine ⟨⟨by kernel_rfl, by kernel_rfl⟩, ?_⟩; conv => whnf)
      | (refine And.intro (by first | omega | (simp; done) | (simp; omega)) ?_; conv => whnf)
      | (refine Or.inl (And.intro (by omega) ?_); conv => whnf))
    refine ⟨j + 1, id, ⟨h, by dsimp only; omega⟩, rfl, ⟨rfl, congrArg (AV.flt .f32) (fo_succ (smF xs) (smI xs (y * W + x)) h RK.nb.z).symm, rfl, rfl, rfl, rfl, trivial⟩, ⟨rfl, trivial⟩⟩
  · have h : j = (nbL W H (y * W + x) 8).length := by simp at h; omega
    subst h
    have e : fo (smF xs) (smI xs (y * W + x)) (nbL W H (y * W + x) 8) (nbL W H (y * W + x) 8).length = smS W H xs (y * W + x) 8 := fo_all _ _ _
    repeat (first
      | (refine ⟨⟨by kernel_rfl, by kernel_rfl⟩, ?_⟩; conv => whnf)
      | (refine And.intro (by first | omega | (simp; done) | (simp; omega)) ?_; conv => whnf)
      | (refine Or.inl (And.intro (by omega) ?_); conv => whnf))
    exact congrArg (fun v => AV.flt .f32 (fop .quo .f32 v (foi .f32 ((nbL W H (y * W + x) 8).length + 1)))) e

theorem iSmooth {W H : Int} {xs : List Nat} {t : AV} (hn : xs.length ≤ 1048576) : Does Try.prog 7 [.agg [.int .i64 W, .int .i64 H, .sli .f32 xs t]] (hlR W H xs (smL W H xs)) := by
  refine Does.of_awp (X := cx 16) Try.func7 rfl (by kernel_rfl) rfl (by simp [cx]) [52] rfl ?_
  conv => whnf
  repeat (first
    | (refine ⟨⟨by kernel_rfl, by kernel_rfl⟩, ?_⟩; conv => whnf)
    | (refine And.intro (by first | omega | (simp; done) | (simp; omega)) ?_; conv => whnf)
    | (refine Or.inl (And.intro (by omega) ?_); conv => whnf)
    | (refine Exists.intro _ (And.intro (iIs (by first | omega | (simp; done) | (simp; omega))) ?_); conv => whnf))
  (refine br_intro (fun g1 => ?_) (fun g1 => ?_) <;> (conv => whnf))
  · have g1 : hillB W H xs = false := by simpa using g1
    all_goals (try (conv => whnf))
    all_goals (repeat' (first | exact True.intro | (refine And.intro ?_ ?_ <;> (conv => whnf))))
    all_goals (first | rfl | (simp_all [hlR, hlO, hlC, selI]; done) | (simp only [hlR, hlO, hlC, selI, cond_true, cond_false, Bool.and_true, Bool.true_and, Bool.and_false, Bool.false_and]; rfl) | (simp_all [hlR, hlO, hlC, selI]; omega))
  have g1 : hillB W H xs = true := by simpa using g1
  obtain ⟨k1, k2, k3, k4, k5, k6, k7⟩ := hill_len g1
  obtain ⟨w, rfl⟩ : ∃ w : Nat, W = w := ⟨W.toNat, by omega⟩
  obtain ⟨h, rfl⟩ : ∃ h : Nat, H = h := ⟨H.toNat, by omega⟩
  have eL : smL w h xs = tabN (fun i => smV w h xs (i : Nat)) (h * w) := by
    unfold smL
    rw [show ((w : Int) * (h : Int)).toNat = h * w by rw [← Int.natCast_mul, Nat.mul_comm]; rfl]
  have hf : ∀ (x y : Nat) (t t' : AV), x < w → y < h → Does Try.prog 24 [.int .i64 x, .int .i64 y, .ref [.int .i64 w, .int .i64 h, .sli .f32 xs t] t'] (.flt .f32 ((fun i : Nat => smV w h xs (i : Nat)) (y * w + x))) := fun x y t t' hx hy => by
    have e : ((y * w + x : Nat) : Int) = (y : Int) * w + x := by simp
    have hxy : y * w + x < w * h := by
      have := Nat.mul_le_mul_right w (show y + 1 ≤ h by omega)
      rw [Nat.succ_mul, Nat.mul_comm h w] at this; omega
    have hxy' : ((y * w + x : Nat) : Int) < (w : Int) * h := by rw [← Int.natCast_mul]; exact Int.ofNat_lt.2 hxy
    show Does _ _ _ (.flt .f32 (smV w h xs ((y * w + x : Nat) : Int)))
    rw [e]
    rw [e] at hxy'
    exact iSmooth1 k5 ⟨⟨by omega, by omega, by omega, by omega⟩, by omega, hxy'⟩ ⟨by omega, by omega⟩
  have eC : hlC w h xs (smL w h xs) = hillB w h (tabN (fun i => smV w h xs (i : Nat)) (h * w)) := by rw [hlC, g1, eL]; rfl
  have eO : hlO w h xs (smL w h xs) = bif hillB w h (tabN (fun i => smV w h xs (i : Nat)) (h * w)) then tabN (fun i => smV w h xs (i : Nat)) (h * w) else [] := by rw [hlO, eC, eL]
  unfold hlR
  rw [eC, eO]
  have c := iMade (G := fun i : Nat => smV w h xs (i : Nat)) (t := .sli .f32 xs t) (t' := .loc 4 0) ⟨by omega, by omega⟩ ⟨by omega, by omega⟩ hf
  clear eC eO eL hf
  generalize hB : hillB w h (tabN (fun i => smV w h xs (i : Nat)) (h * w)) = B at c ⊢
  generalize hT : tabN (fun i => smV w h xs (i : Nat)) (h * w) = T at c ⊢
  clear hB hT
  refine Exists.intro _ (And.intro c ?_)
  conv => whnf
  repeat (first
    | (refine ⟨⟨by kernel_rfl, by kernel_rfl⟩, ?_⟩; conv => whnf)
    | (refine And.intro (by first | omega | (simp; done) | (simp; omega)) ?_; conv => whnf)
    | (refine Or.inl (And.intro (by omega) ?_); conv => whnf))
  all_goals (try (conv => whnf))
  all_goals (repeat' (first | exact True.intro | (refine And.intro ?_ ?_ <;> (conv => whnf))))
  all_goals (first | rfl | (simp_all []; done) | (simp only [cond_true, cond_false, Bool.and_true, Bool.true_and, Bool.and_false, Bool.false_and]; rfl) | (simp_all []; omega))

end Go.Proofs.Ytagiajolklbbiaa
