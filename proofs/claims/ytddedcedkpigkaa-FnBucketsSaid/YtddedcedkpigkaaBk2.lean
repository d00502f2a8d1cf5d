/- What each function of this seat does (Bk2). Printed from templates of this seat's own. -/
import Derived.Test.YtddedcedkpigkaaBkt
namespace Go.Proofs.Ytddedcedkpigkaa
open Go.Ax Go.Bx
set_option maxRecDepth 8000
set_option linter.unusedSimpArgs false
set_option linter.unusedVariables false
theorem bkI_step {sh : Nat} {now : List Nat} {fl k : Nat} (hk : k < now.length) :
    fop .mul .f32 (((bkI sh now fl k).1.set k (fop .add .f32 ((bkI sh now fl k).1.getD k 0) (bkI sh now fl k).2)).getD k 0) sh = (bkI sh now fl (k + 1)).2 ∧
    ((bkI sh now fl k).1.set k (fop .add .f32 ((bkI sh now fl k).1.getD k 0) (bkI sh now fl k).2)).set k (fop .sub .f32 (((bkI sh now fl k).1.set k (fop .add .f32 ((bkI sh now fl k).1.getD k 0) (bkI sh now fl k).2)).getD k 0) (fop .mul .f32 (((bkI sh now fl k).1.set k (fop .add .f32 ((bkI sh now fl k).1.getD k 0) (bkI sh now fl k).2)).getD k 0) sh)) = (bkI sh now fl (k + 1)).1 := by
  have hl := bkI_len sh now fl k
  rw [getD_set _ _ _ _ (by omega)]
  rw [bkI, bkF]
  exact ⟨rfl, rfl⟩

theorem iRunBuckets {st rs : List Nat} {rate tick : Nat} {t t' : AV} (hs : st.length ≤ 1048576) (hr : rs.length ≤ 1048576) (l1 : rate < 2 ^ 32) (l2 : tick < 2 ^ 32) (h32 : ∀ y ∈ st, y < 2 ^ 32) (h32' : ∀ y ∈ rs, y < 2 ^ 32) : Does Try.prog 24 [.sli .f32 st t, .flt .f32 rate, .flt .f32 tick, .sli .f32 rs t'] (bkV (bkB st rate tick rs) st rate tick rs) := by
  have no : bkG st rate tick rs = false → bkB st rate tick rs = false := fun h => by rw [bkB, h]; rfl
  refine Does.of_awp (X := cx 97) Try.func24 rfl (by kernel_rfl) rfl (by simp [cx]) [192, 196] rfl ?_
  conv => whnf
  repeat (first
    | (refine ⟨⟨by kernel_rfl, by kernel_rfl⟩, ?_⟩; conv => whnf)
    | (refine And.intro (by first | omega | (simp; done) | (simp; omega)) ?_; conv => whnf)
    | (refine Or.inl (And.intro (by omega) ?_); conv => whnf)
    | (refine Exists.intro _ (And.intro (iWithin) ?_); conv => whnf))
  (refine br_intro (fun g1 => ?_) (fun g1 => ?_) <;> (conv => whnf))
  · have g1 : inR (st.length : Int) 1 8 = false := by simpa using g1
    rw [no (by simp [bkG, g1])]
    repeat (first
      | (refine ⟨⟨by kernel_rfl, by kernel_rfl⟩, ?_⟩; conv => whnf)
      | (refine And.intro (by first | omega | (simp; done) | (simp; omega)) ?_; conv => whnf)
      | (refine Or.inl (And.intro (by omega) ?_); conv => whnf)
      | (refine br_intro (fun h => by exfalso; first | (simp at h; done) | (simp at h; omega) | omega) (fun _ => ?_); conv => whnf)
      | (refine br_intro (fun _ => ?_) (fun h => by exfalso; first | (simp at h; done) | (simp at h; omega) | omega); conv => whnf))
    all_goals (try (conv => whnf))
    all_goals (repeat' (first | exact True.intro | (refine And.intro ?_ ?_ <;> (conv => whnf))))
    all_goals (first | rfl | (simp_all [bkV]; done) | (simp only [bkV, cond_true, cond_false, Bool.and_true, Bool.true_and, Bool.and_false, Bool.false_and]; rfl) | (simp_all [bkV]; omega))
  have g1 : inR (st.length : Int) 1 8 = true := by simpa using g1
  repeat (first
    | (refine ⟨⟨by kernel_rfl, by kernel_rfl⟩, ?_⟩; conv => whnf)
    | (refine And.intro (by first | omega | (simp; done) | (simp; omega)) ?_; conv => whnf)
    | (refine Or.inl (And.intro (by omega) ?_); conv => whnf)
    | (refine Exists.intro _ (And.intro (iLeastL (by first | omega | (simp; done) | (simp; omega))) ?_); conv => whnf))
  (refine br_intro (fun g6 => ?_) (fun g6 => ?_) <;> (conv => whnf))
  · have g6 : leastL st = false := by simpa using g6
    rw [no (by simp [bkG, g6])]
    repeat (first
      | (refine ⟨⟨by kernel_rfl, by kernel_rfl⟩, ?_⟩; conv => whnf)
      | (refine And.intro (by first | omega | (simp; done) | (simp; omega)) ?_; conv => whnf)
      | (refine Or.inl (And.intro (by omega) ?_); conv => whnf)
      | (refine br_intro (fun h => by exfalso; first | (simp at h; done) | (simp at h; omega) | omega) (fun _ => ?_); conv => whnf)
      | (refine br_intro (fun _ => ?_) (fun h => by exfalso; first | (simp at h; done) | (simp at h; omega) | omega); conv => whnf))
    all_goals (try (conv => whnf))
    all_goals (repeat' (first | exact True.intro | (refine And.intro ?_ ?_ <;> (conv => whnf))))
    all_goals (first | rfl | (simp_all [bkV]; done) | (simp only [bkV, cond_true, cond_false, Bool.and_true, Bool.true_and, Bool.and_false, Bool.false_and]; rfl) | (simp_all [bkV]; omega))
  have g6 : leastL st = true := by simpa using g6
  repeat (first
    | (refine ⟨⟨by kernel_rfl, by kernel_rfl⟩, ?_⟩; conv => whnf)
    | (refine And.intro (by first | omega | (simp; done) | (simp; omega)) ?_; conv => whnf)
    | (refine Or.inl (And.intro (by omega) ?_); conv => whnf)
    | (refine Exists.intro _ (And.intro (iMass) ?_); conv => whnf))
  (refine br_intro (fun g3 => ?_) (fun g3 => ?_) <;> (conv => whnf))
  · have g3 : least rate = false := by simpa using g3
    rw [no (by simp [bkG, g3])]
    repeat (first
      | (refine ⟨⟨by kernel_rfl, by kernel_rfl⟩, ?_⟩; conv => whnf)
      | (refine And.intro (by first | omega | (simp; done) | (simp; omega)) ?_; conv => whnf)
      | (refine Or.inl (And.intro (by omega) ?_); conv => whnf)
      | (refine br_intro (fun h => by exfalso; first | (simp at h; done) | (simp at h; omega) | omega) (fun _ => ?_); conv => whnf)
      | (refine br_intro (fun _ => ?_) (fun h => by exfalso; first | (simp at h; done) | (simp at h; omega) | omega); conv => whnf))
    all_goals (try (conv => whnf))
    all_goals (repeat' (first | exact True.intro | (refine And.intro ?_ ?_ <;> (conv => whnf))))
    all_goals (first | rfl | (simp_all [bkV]; done) | (simp only [bkV, cond_true, cond_false, Bool.and_true, Bool.true_and, Bool.and_false, Bool.false_and]; rfl) | (simp_all [bkV]; omega))
  have g3 : least rate = true := by simpa using g3
  repeat (first
    | (refine ⟨⟨by kernel_rfl, by kernel_rfl⟩, ?_⟩; conv => whnf)
    | (refine And.intro (by first | omega | (simp; done) | (simp; omega)) ?_; conv => whnf)
    | (refine Or.inl (And.intro (by omega) ?_); conv => whnf)
    | (refine Exists.intro _ (And.intro (iLength) ?_); conv => whnf))
  (refine br_intro (fun g4 => ?_) (fun g4 => ?_) <;> (conv => whnf))
  · have g4 : above tick = false := by simpa using g4
    rw [no (by simp [bkG, g4])]
    repeat (first
      | (refine ⟨⟨by kernel_rfl, by kernel_rfl⟩, ?_⟩; conv => whnf)
      | (refine And.intro (by first | omega | (simp; done) | (simp; omega)) ?_; conv => whnf)
      | (refine Or.inl (And.intro (by omega) ?_); conv => whnf)
      | (refine br_intro (fun h => by exfalso; first | (simp at h; done) | (simp at h; omega) | omega) (fun _ => ?_); conv => whnf)
      | (refine br_intro (fun _ => ?_) (fun h => by exfalso; first | (simp at h; done) | (simp at h; omega) | omega); conv => whnf))
    all_goals (try (conv => whnf))
    all_goals (repeat' (first | exact True.intro | (refine And.intro ?_ ?_ <;> (conv => whnf))))
    all_goals (first | rfl | (simp_all [bkV]; done) | (simp only [bkV, cond_true, cond_false, Bool.and_true, Bool.true_and, Bool.and_false, Bool.false_and]; rfl) | (simp_all [bkV]; omega))
  have g4 : above tick = true := by simpa using g4
  repeat (first
    | (refine ⟨⟨by kernel_rfl, by kernel_rfl⟩, ?_⟩; conv => whnf)
    | (refine And.intro (by first | omega | (simp; done) | (simp; omega)) ?_; conv => whnf)
    | (refine Or.inl (And.intro (by omega) ?_); conv => whnf)
    | (refine Exists.intro _ (And.intro (iIsRain (by first | omega | (simp; done) | (simp; omega))) ?_); conv => whnf))
  (refine br_intro (fun g5 => ?_) (fun g5 => ?_) <;> (conv => whnf))
  · have g5 : rainB rs = false := by simpa using g5
    rw [no (by simp [bkG, g5])]
    repeat (first
      | (refine ⟨⟨by kernel_rfl, by kernel_rfl⟩, ?_⟩; conv => whnf)
      | (refine And.intro (by first | omega | (simp; done) | (simp; omega)) ?_; conv => whnf)
      | (refine Or.inl (And.intro (by omega) ?_); conv => whnf)
      | (refine br_intro (fun h => by exfalso; first | (simp at h; done) | (simp at h; omega) | omega) (fun _ => ?_); conv => whnf)
      | (refine br_intro (fun _ => ?_) (fun h => by exfalso; first | (simp at h; done) | (simp at h; omega) | omega); conv => whnf))
    all_goals (try (conv => whnf))
    all_goals (repeat' (first | exact True.intro | (refine And.intro ?_ ?_ <;> (conv => whnf))))
    all_goals (first | rfl | (simp_all [bkV]; done) | (simp only [bkV, cond_true, cond_false, Bool.and_true, Bool.true_and, Bool.and_false, Bool.false_and]; rfl) | (simp_all [bkV]; omega))
  have g5 : rainB rs = true := by simpa using g5
  have hx := bkX_le g3 g4 l1 l2
  have hrl := rain_len g5
  have eG : bkG st rate tick rs = true := by rw [bkG, g1, g3, g4, g5, g6]; rfl
  have eB : bkB st rate tick rs = bkE st rate tick rs := by rw [bkB, eG]; rfl
  have hsl : 1 ≤ st.length ∧ st.length ≤ 8 := by
    simp only [inR, Bool.and_eq_true, decide_eq_true_eq] at g1
    omega
  have n1 : NGL st := .of_least g6 h32
  have n2 : NGL rs := by
    have g := g5
    simp only [rainB, Bool.and_eq_true] at g
    exact .of_least g.2 h32'
  have hng := bkO_ng (bkS_unit hx) n1 n2 rs.length (Nat.le_refl _)
  rw [eB]
  clear eB eG no g1 g3 g4 g5 g6 n1 n2
  have hE : ∀ {x}, x = bkX rate tick → Does Try.prog 40 [.flt .f32 x] (.flt .f32 (exR (bkX rate tick))) := fun e => by rw [e]; exact iExp hx
  repeat (first
    | (refine ⟨⟨by kernel_rfl, by kernel_rfl⟩, ?_⟩; conv => whnf)
    | (refine And.intro (by first | omega | (simp; done) | (simp; omega)) ?_; conv => whnf)
    | (refine Or.inl (And.intro (by omega) ?_); conv => whnf)
    | (refine Exists.intro _ (And.intro (hE rfl) ?_); conv => whnf)
    | (refine Exists.intro _ (And.intro (xClone (by first | omega | (simp; done) | (simp; omega)) (by first | omega | (simp; done) | (simp; omega))) ?_); conv => whnf))
  refine ⟨Nat, fun i => i ≤ rs.length, fun i => [(11, .flt .f32 (bkS rate tick)), (12, .osl 192), (13, .osl 196), (50, .sli .f32 rs t'), (51, .int .i64 rs.length), (52, .int .i64 i)], fun i => [(192, .tab .f32 (bkO (bkS rate tick) st rs i).1), (196, .tab .f32 (bkO (bkS rate tick) st rs i).2)], fun i => rs.length - i, ⟨0, id, Nat.zero_le _, rfl, ⟨rfl, rfl, rfl, rfl, rfl, rfl, trivial⟩, ⟨rfl, rfl, trivial⟩⟩, fun i hi => ?_⟩
  dsimp only at hi
  obtain ⟨l1, l2⟩ := bkO_len (bkS rate tick) st rs i
  conv => whnf
  (refine br_intro (fun h => ?_) (fun h => ?_) <;> (conv => whnf))
  · have h : i < rs.length := by simp at h; omega
    repeat (first
      | (refine ⟨⟨by kernel_rfl, by kernel_rfl⟩, ?_⟩; conv => whnf)
      | (refine And.intro (by first | omega | (simp; done) | (simp; omega)) ?_; conv => whnf)
      | (refine Or.inl (And.intro (by omega) ?_); conv => whnf))
    refine ⟨Nat, fun k => k ≤ st.length, fun k => [(11, .flt .f32 (bkS rate tick)), (12, .osl 192), (13, .osl 196), (15, .flt .f32 (bkI (bkS rate tick) (bkO (bkS rate tick) st rs i).1 (rs.getD i 0) k).2), (50, .sli .f32 rs t'), (51, .int .i64 rs.length), (52, .int .i64 i), (57, .int .i64 (bkO (bkS rate tick) st rs i).1.length), (58, .int .i64 k)], fun k => [(192, .tab .f32 (bkI (bkS rate tick) (bkO (bkS rate tick) st rs i).1 (rs.getD i 0) k).1), (196, .tab .f32 (bkO (bkS rate tick) st rs i).2)], fun k => st.length - k, ⟨0, id, Nat.zero_le _, rfl, ⟨rfl, rfl, rfl, rfl, rfl, rfl, rfl, rfl, rfl, trivial⟩, ⟨rfl, rfl, trivial⟩⟩, fun k hk => ?_⟩
    dsimp only at hk
    have hbl := bkI_len (bkS rate tick) (bkO (bkS rate tick) st rs i).1 (rs.getD i 0) k
    conv => whnf
    (refine br_intro (fun h2 => ?_) (fun h2 => ?_) <;> (conv => whnf))
    · have h2 : k < st.length := by simp at h2; omega
      obtain ⟨e1, e2⟩ := bkI_step (sh := bkS rate tick) (now := (bkO (bkS rate tick) st rs i).1) (fl := rs.getD i 0) (k := k) (by omega)
      repeat (first
        | (refine ⟨⟨by kernel_rfl, by kernel_rfl⟩, ?_⟩; conv => whnf)
        | (refine And.intro (by first | omega | (simp; done) | (simp; omega)) ?_; conv => whnf)
        | (refine Or.inl (And.intro (by omega) ?_); conv => whnf))
      refine ⟨k + 1, id, ⟨h2, by dsimp only; omega⟩, rfl, ⟨rfl, rfl, rfl, congrArg (AV.flt .f32) e1, rfl, rfl, rfl, rfl, rfl, trivial⟩, ⟨congrArg (fun l => KS.live (Blk.tab .f32 l)) e2, rfl, trivial⟩⟩
    · have h2 : k = st.length := by simp at h2; omega
      subst h2
      repeat (first
        | (refine ⟨⟨by kernel_rfl, by kernel_rfl⟩, ?_⟩; conv => whnf)
        | (refine And.intro (by first | omega | (simp; done) | (simp; omega)) ?_; conv => whnf)
        | (refine Or.inl (And.intro (by omega) ?_); conv => whnf))
      refine ⟨i + 1, ren [(196, 340)], ⟨h, by dsimp only; omega⟩, rfl, ⟨rfl, rfl, rfl, rfl, rfl, rfl, trivial⟩, ⟨rfl, rfl, trivial⟩⟩
  · have h : i = rs.length := by simp at h; omega
    subst h
    have eL := leastL_ng hng
    repeat (first
      | (refine ⟨⟨by kernel_rfl, by kernel_rfl⟩, ?_⟩; conv => whnf)
      | (refine And.intro (by first | omega | (simp; done) | (simp; omega)) ?_; conv => whnf)
      | (refine Or.inl (And.intro (by omega) ?_); conv => whnf)
      | (refine Exists.intro _ (And.intro (iLeastL (by first | omega | (simp; done) | (simp; omega))) ?_); conv => whnf))
    (refine br_intro (fun h1 => ?_) (fun h1 => ?_) <;> (conv => whnf))
    · have h1 : leastL (bkO (bkS rate tick) st rs rs.length).1 = false := by simpa using h1
      rw [eL] at h1
      have eB : bkE st rate tick rs = false := by rw [bkE, h1]; rfl
      rw [eB]
      repeat (first
        | (refine ⟨⟨by kernel_rfl, by kernel_rfl⟩, ?_⟩; conv => whnf)
        | (refine And.intro (by first | omega | (simp; done) | (simp; omega)) ?_; conv => whnf)
        | (refine Or.inl (And.intro (by omega) ?_); conv => whnf)
        | (refine br_intro (fun h => by exfalso; first | (simp at h; done) | (simp at h; omega) | omega) (fun _ => ?_); conv => whnf)
        | (refine br_intro (fun _ => ?_) (fun h => by exfalso; first | (simp at h; done) | (simp at h; omega) | omega); conv => whnf))
      all_goals (try (conv => whnf))
      all_goals (repeat' (first | exact True.intro | (refine And.intro ?_ ?_ <;> (conv => whnf))))
      all_goals (first | rfl | (simp_all [bkV]; done) | (simp only [bkV, cond_true, cond_false, Bool.and_true, Bool.true_and, Bool.and_false, Bool.false_and]; rfl) | (simp_all [bkV]; omega))
    · have h1 : leastL (bkO (bkS rate tick) st rs rs.length).1 = true := by simpa using h1
      rw [eL] at h1
      repeat (first
        | (refine ⟨⟨by kernel_rfl, by kernel_rfl⟩, ?_⟩; conv => whnf)
        | (refine And.intro (by first | omega | (simp; done) | (simp; omega)) ?_; conv => whnf)
        | (refine Or.inl (And.intro (by omega) ?_); conv => whnf)
        | (refine Exists.intro _ (And.intro (iFinL (by first | omega | (simp; done) | (simp; omega))) ?_); conv => whnf))
      (refine br_intro (fun h2 => ?_) (fun h2 => ?_) <;> (conv => whnf))
      · have h2 : finL (bkO (bkS rate tick) st rs rs.length).2 = false := by simpa using h2
        have eB : bkE st rate tick rs = false := by rw [bkE, h2, Bool.and_false]
        rw [eB]
        repeat (first
          | (refine ⟨⟨by kernel_rfl, by kernel_rfl⟩, ?_⟩; conv => whnf)
          | (refine And.intro (by first | omega | (simp; done) | (simp; omega)) ?_; conv => whnf)
          | (refine Or.inl (And.intro (by omega) ?_); conv => whnf)
          | (refine br_intro (fun h => by exfalso; first | (simp at h; done) | (simp at h; omega) | omega) (fun _ => ?_); conv => whnf)
          | (refine br_intro (fun _ => ?_) (fun h => by exfalso; first | (simp at h; done) | (simp at h; omega) | omega); conv => whnf))
        all_goals (try (conv => whnf))
        all_goals (repeat' (first | exact True.intro | (refine And.intro ?_ ?_ <;> (conv => whnf))))
        all_goals (first | rfl | (simp_all [bkV]; done) | (simp only [bkV, cond_true, cond_false, Bool.and_true, Bool.true_and, Bool.and_false, Bool.false_and]; rfl) | (simp_all [bkV]; omega))
      · have h2 : finL (bkO (bkS rate tick) st rs rs.length).2 = true := by simpa using h2
        have eB : bkE st rate tick rs = true := by rw [bkE, h1, h2]; rfl
        rw [eB]
        repeat (first
          | (refine ⟨⟨by kernel_rfl, by kernel_rfl⟩, ?_⟩; conv => whnf)
          | (refine And.intro (by first | omega | (simp; done) | (simp; omega)) ?_; conv => whnf)
          | (refine Or.inl (And.intro (by omega) ?_); conv => whnf)
          | (refine br_intro (fun h => by exfalso; first | (simp at h; done) | (simp at h; omega) | omega) (fun _ => ?_); conv => whnf)
          | (refine br_intro (fun _ => ?_) (fun h => by exfalso; first | (simp at h; done) | (simp at h; omega) | omega); conv => whnf))
        all_goals (try (conv => whnf))
        all_goals (repeat' (first | exact True.intro | (refine And.intro ?_ ?_ <;> (conv => whnf))))
        all_goals (first | rfl | (simp_all [bkV]; done) | (simp only [bkV, cond_true, cond_false, Bool.and_true, Bool.true_and, Bool.and_false, Bool.false_and]; rfl) | (simp_all [bkV]; omega))

end Go.Proofs.Ytddedcedkpigkaa
