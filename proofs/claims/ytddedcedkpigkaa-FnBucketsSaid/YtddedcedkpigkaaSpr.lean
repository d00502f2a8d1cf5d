/- What each function of this seat does (Spr). Printed from templates of this seat's own. -/
import Derived.Test.YtddedcedkpigkaaUni
namespace Go.Proofs.Ytddedcedkpigkaa
open Go.Ax Go.Bx
set_option maxRecDepth 8000
set_option linter.unusedSimpArgs false
set_option linter.unusedVariables false
noncomputable def spreadAt (xs ys : List Nat) (r : Nat) : Nat → Nat
  | 0 => K 0
  | n + 1 => if r - n < ys.length then fop .add .f32 (spreadAt xs ys r n) (fop .mul .f32 (xs.getD n 0) (ys.getD (r - n) 0)) else spreadAt xs ys r n
noncomputable def spreadL (xs ys : List Nat) : List Nat := tabN (fun r => spreadAt xs ys r (r + 1)) xs.length
noncomputable def spreadC (xs ys : List Nat) : Bool := rainB xs && rainB ys && finL (spreadL xs ys)
noncomputable def spreadO (xs ys : List Nat) : List Nat := bif spreadC xs ys then spreadL xs ys else []
noncomputable def spreadR (xs ys : List Nat) : AV := .tup [.own 0 .f32 (spreadO xs ys), .bool (spreadC xs ys)]
theorem spreadO_len (xs ys : List Nat) (hn : xs.length ≤ 1048576) : (spreadO xs ys).length ≤ 1048576 := by
  unfold spreadO
  cases spreadC xs ys
  · exact Nat.zero_le _
  · rw [cond_true, spreadL, tabN_len]; exact hn

theorem iSpread {xs ys : List Nat} {t t' : AV} (hn : xs.length ≤ 1048576) (hn' : ys.length ≤ 1048576) : Does Try.prog 26 [.sli .f32 xs t, .sli .f32 ys t'] (spreadR xs ys) := by
  refine Does.of_awp (X := cx 58) Try.func26 rfl (by kernel_rfl) rfl (by simp [cx]) [72] rfl ?_
  conv => whnf
  repeat (first
    | (refine ⟨⟨by kernel_rfl, by kernel_rfl⟩, ?_⟩; conv => whnf)
    | (refine And.intro (by first | omega | (simp; done) | (simp; omega)) ?_; conv => whnf)
    | (refine Or.inl (And.intro (by omega) ?_); conv => whnf)
    | (refine Exists.intro _ (And.intro (iIsRain (by first | omega | (simp; done) | (simp; omega))) ?_); conv => whnf))
  (refine br_intro (fun h1 => ?_) (fun h1 => ?_) <;> (conv => whnf))
  · have h1 : rainB xs = false := by simpa using h1
    all_goals (try (conv => whnf))
    all_goals (repeat' (first | exact True.intro | (refine And.intro ?_ ?_ <;> (conv => whnf))))
    all_goals (first | rfl | (simp_all [spreadR, spreadO, spreadC, h1]; done) | (simp only [spreadR, spreadO, spreadC, h1, cond_true, cond_false, Bool.and_true, Bool.true_and, Bool.and_false, Bool.false_and]; rfl) | (simp_all [spreadR, spreadO, spreadC, h1]; omega))
  · have h1 : rainB xs = true := by simpa using h1
    repeat (first
      | (refine ⟨⟨by kernel_rfl, by kernel_rfl⟩, ?_⟩; conv => whnf)
      | (refine And.intro (by first | omega | (simp; done) | (simp; omega)) ?_; conv => whnf)
      | (refine Or.inl (And.intro (by omega) ?_); conv => whnf)
      | (refine Exists.intro _ (And.intro (iIsRain (by first | omega | (simp; done) | (simp; omega))) ?_); conv => whnf))
    (refine br_intro (fun h2 => ?_) (fun h2 => ?_) <;> (conv => whnf))
    · have h2 : rainB ys = false := by simpa using h2
      all_goals (try (conv => whnf))
      all_goals (repeat' (first | exact True.intro | (refine And.intro ?_ ?_ <;> (conv => whnf))))
      all_goals (first | rfl | (simp_all [spreadR, spreadO, spreadC, h1, h2]; done) | (simp only [spreadR, spreadO, spreadC, h1, h2, cond_true, cond_false, Bool.and_true, Bool.true_and, Bool.and_false, Bool.false_and]; rfl) | (simp_all [spreadR, spreadO, spreadC, h1, h2]; omega))
    · have h2 : rainB ys = true := by simpa using h2
      have l1 := rain_len h1
      have l2 := rain_len h2
      repeat (first
        | (refine ⟨⟨by kernel_rfl, by kernel_rfl⟩, ?_⟩; conv => whnf)
        | (refine And.intro (by first | omega | (simp; done) | (simp; omega)) ?_; conv => whnf)
        | (refine Or.inl (And.intro (by omega) ?_); conv => whnf))
      refine ⟨Nat, fun r => r ≤ xs.length, fun r => [(0, .sli .f32 xs t), (1, .sli .f32 ys t'), (6, .osl 72), (20, .int .i64 xs.length), (21, .int .i64 r)], fun r => [(72, .tab .f32 (tabN (fun r => spreadAt xs ys r (r + 1)) r))], fun r => xs.length - r, ⟨0, id, Nat.zero_le _, rfl, ⟨rfl, rfl, rfl, rfl, rfl, trivial⟩, ⟨rfl, trivial⟩⟩, fun r hr => ?_⟩
      conv => whnf
      (refine br_intro (fun h3 => ?_) (fun h3 => ?_) <;> (conv => whnf))
      · have h3 : r < xs.length := by simp at h3; omega
        repeat (first
          | (refine ⟨⟨by kernel_rfl, by kernel_rfl⟩, ?_⟩; conv => whnf)
          | (refine And.intro (by first | omega | (simp; done) | (simp; omega)) ?_; conv => whnf)
          | (refine Or.inl (And.intro (by omega) ?_); conv => whnf))
        refine ⟨Nat, fun n => n ≤ r + 1, fun n => [(0, .sli .f32 xs t), (1, .sli .f32 ys t'), (6, .osl 72), (20, .int .i64 xs.length), (21, .int .i64 r), (7, .int .i64 r), (8, .flt .f32 (spreadAt xs ys r n)), (25, .int .i64 (r + 1)), (26, .int .i64 n)], fun n => [(72, .tab .f32 (tabN (fun r => spreadAt xs ys r (r + 1)) r))], fun n => r + 1 - n, ⟨0, id, Nat.zero_le _, rfl, ⟨rfl, rfl, rfl, rfl, rfl, rfl, rfl, rfl, rfl, trivial⟩, ⟨rfl, trivial⟩⟩, fun n hn1 => ?_⟩
        conv => whnf
        (refine br_intro (fun h4 => ?_) (fun h4 => ?_) <;> (conv => whnf))
        · have h4 : n ≤ r := by simp at h4; omega
          repeat (first
            | (refine ⟨⟨by kernel_rfl, by kernel_rfl⟩, ?_⟩; conv => whnf)
            | (refine And.intro (by first | omega | (simp; done) | (simp; omega)) ?_; conv => whnf)
            | (refine Or.inl (And.intro (by omega) ?_); conv => whnf))
          (refine br_intro (fun h5 => ?_) (fun h5 => ?_) <;> (conv => whnf))
          · have h5 : r - n < ys.length := by simp at h5; omega
            repeat (first
              | (refine ⟨⟨by kernel_rfl, by kernel_rfl⟩, ?_⟩; conv => whnf)
              | (refine And.intro (by first | omega | (simp; done) | (simp; omega)) ?_; conv => whnf)
              | (refine Or.inl (And.intro (by omega) ?_); conv => whnf))
            have e8 : fop .add .f32 (spreadAt xs ys r n) (fop .mul .f32 (xs.getD n 0) (ys.getD ((r : Int) - n).toNat 0)) = spreadAt xs ys r (n + 1) := by
              rw [show ((r : Int) - n).toNat = r - n by omega]; simp [spreadAt, h5]
            refine ⟨n + 1, id, ⟨by dsimp only; omega, by dsimp only; omega⟩, rfl, ⟨rfl, rfl, rfl, rfl, rfl, rfl, congrArg (AV.flt .f32) e8, rfl, rfl, trivial⟩, ⟨rfl, trivial⟩⟩
          · have h5 : ¬ r - n < ys.length := by simp at h5; omega
            repeat (first
              | (refine ⟨⟨by kernel_rfl, by kernel_rfl⟩, ?_⟩; conv => whnf)
              | (refine And.intro (by first | omega | (simp; done) | (simp; omega)) ?_; conv => whnf)
              | (refine Or.inl (And.intro (by omega) ?_); conv => whnf))
            refine ⟨n + 1, id, ⟨by dsimp only; omega, by dsimp only; omega⟩, rfl, ⟨rfl, rfl, rfl, rfl, rfl, rfl, congrArg (AV.flt .f32) (show spreadAt xs ys r n = spreadAt xs ys r (n + 1) by simp [spreadAt, h5]), rfl, rfl, trivial⟩, ⟨rfl, trivial⟩⟩
        · have h4 : n = r + 1 := by simp at h4; omega
          subst h4
          repeat (first
            | (refine ⟨⟨by kernel_rfl, by kernel_rfl⟩, ?_⟩; conv => whnf)
            | (refine And.intro (by first | omega | (simp; done) | (simp; omega)) ?_; conv => whnf)
            | (refine Or.inl (And.intro (by omega) ?_); conv => whnf))
          refine ⟨r + 1, ren [(72, 208)], ⟨by dsimp only; omega, by dsimp only; omega⟩, rfl, ⟨rfl, rfl, rfl, rfl, rfl, trivial⟩, ⟨rfl, trivial⟩⟩
      · have h3 : r = xs.length := by simp at h3; omega
        subst h3
        repeat (first
          | (refine ⟨⟨by kernel_rfl, by kernel_rfl⟩, ?_⟩; conv => whnf)
          | (refine And.intro (by first | omega | (simp; done) | (simp; omega)) ?_; conv => whnf)
          | (refine Or.inl (And.intro (by omega) ?_); conv => whnf)
          | (refine Exists.intro _ (And.intro (iFinL (by first | omega | (simp; done) | (simp; omega))) ?_); conv => whnf))
        (refine br_intro (fun h6 => ?_) (fun h6 => ?_) <;> (conv => whnf))
        · have h6 : finL (spreadL xs ys) = false := by simpa [spreadL] using h6
          all_goals (try (conv => whnf))
          all_goals (repeat' (first | exact True.intro | (refine And.intro ?_ ?_ <;> (conv => whnf))))
          all_goals (first | rfl | (simp_all [spreadR, spreadO, spreadC, h1, h2, h6]; done) | (simp only [spreadR, spreadO, spreadC, h1, h2, h6, cond_true, cond_false, Bool.and_true, Bool.true_and, Bool.and_false, Bool.false_and]; rfl) | (simp_all [spreadR, spreadO, spreadC, h1, h2, h6]; omega))
        · have h6 : finL (spreadL xs ys) = true := by simpa [spreadL] using h6
          all_goals (try (conv => whnf))
          all_goals (repeat' (first | exact True.intro | (refine And.intro ?_ ?_ <;> (conv => whnf))))
          all_goals (first | rfl | (simp_all [spreadR, spreadO, spreadC, h1, h2, h6]; done) | (simp only [spreadR, spreadO, spreadC, h1, h2, h6, cond_true, cond_false, Bool.and_true, Bool.true_and, Bool.and_false, Bool.false_and]; rfl) | (simp_all [spreadR, spreadO, spreadC, h1, h2, h6]; omega))

end Go.Proofs.Ytddedcedkpigkaa
