/- What each function of this seat does (Wo6). Printed from templates of this seat's own. -/
import Derived.Test.YtngmlbeafdaolaaWo5
import Derived.Test.YtngmlbeafdaolaaDig
import Derived.Test.YtngmlbeafdaolaaScl
namespace Go.Proofs.Ytngmlbeafdaolaa
open Go.Ax Go.Bx
set_option maxRecDepth 8000
set_option linter.unusedSimpArgs false
set_option linter.unusedVariables false
theorem mk_dyH {W H : Int} {xs ys : List Nat} {g2 : Nat → Int} (hh : hillB W H xs = true) (hl : ys.length = xs.length) (h : ∀ i, i < ys.length → -20 ≤ g2 i ∧ g2 i ≤ 20 ∧ Dy .f32 1 (g2 i) (ys.getD i 0) ∧ ys.getD i 0 < 2 ^ 32) : DyH W H ys g2 := by
  have hl2 := hill_len hh
  refine ⟨⟨?_, fun y hy => ?_⟩, fun i hi => ⟨(h i hi).1, (h i hi).2.1, (h i hi).2.2.1⟩⟩
  · unfold hillB
    rw [show inR W 1 16 = true by simp [inR]; omega, show inR H 1 16 = true by simp [inR]; omega, decide_eq_true (show (ys.length : Int) = W * H by omega)]
    show finL ys = true
    unfold finL
    exact allN_iff.2 fun i hi => (h i hi).2.2.1.fin
  · obtain ⟨i, hi, e⟩ := List.getElem_of_mem hy
    have := (h i hi).2.2.2
    rw [List.getD_eq_getElem?_getD, List.getElem?_eq_getElem hi, Option.getD_some, e] at this
    exact this
theorem dy_one1 : Dy .f32 1 2 (canon .f32 1065353216) := dyB_spec (by decide +kernel)
theorem dy_two0 : Dy .f32 0 2 (canon .f32 1073741824) := dyB_spec (by decide +kernel)
theorem hill_32 {W H : Int} {xs : List Nat} (hh : HillW W H xs) {i : Nat} (hi : i < xs.length) : xs.getD i 0 < 2 ^ 32 := (hh.nn hi).1.2
section
variable {W H : Int} {xs : List Nat} {g : Nat → Int} (hx : DyH W H xs g) (h8 : ∀ i, i < xs.length → 0 ≤ g i ∧ g i ≤ 8)
include hx h8
/-- A hill with one cell dug. -/
theorem dug_dy {j : Nat} (hj : j < xs.length) : dgC W H xs [(j : Int)] (canon .f32 1065353216) = true ∧ DyH W H (dgN xs [(j : Int)] (canon .f32 1065353216) 1) (fun i => if i = j then g j - 2 else g i) := by
  have hl := hill_len hx.1.1
  have e : dgN xs [(j : Int)] (canon .f32 1065353216) 1 = xs.set j (fop .sub .f32 (xs.getD j 0) (canon .f32 1065353216)) := by
    rw [dgN]
    show (dgN xs [(j : Int)] (canon .f32 1065353216) 0).set (j : Int).toNat _ = _
    rw [Int.toNat_natCast]
    rfl
  have hD : DyH W H (dgN xs [(j : Int)] (canon .f32 1065353216) 1) (fun i => if i = j then g j - 2 else g i) := by
    rw [e]
    refine mk_dyH (xs := xs) hx.1.1 (by rw [List.length_set]) fun i hi => ?_
    rw [List.length_set] at hi
    have eg : (xs.set j (fop .sub .f32 (xs.getD j 0) (canon .f32 1065353216))).getD i 0 = if j = i then fop .sub .f32 (xs.getD j 0) (canon .f32 1065353216) else xs.getD i 0 := by
      rw [List.getD_eq_getElem?_getD, List.getElem?_set]
      by_cases h : j = i
      · rw [if_pos h, if_pos h, if_pos hj]; rfl
      · rw [if_neg h, if_neg h, ← List.getD_eq_getElem?_getD]
    rw [eg]
    obtain ⟨a1, a2, a3⟩ := hx.2 i hi
    by_cases h : j = i
    · subst h
      rw [if_pos rfl]
      try dsimp only
      rw [if_pos rfl]
      have := h8 j hj
      exact ⟨by omega, by omega, a3.sub dy_one1 (by rw [b32]; omega), fop_lt _ _ _⟩
    · rw [if_neg h]
      try dsimp only
      rw [if_neg (fun e => h e.symm)]
      exact ⟨a1, a2, a3, hill_32 hx.1 hi⟩
  refine ⟨?_, hD⟩
  unfold dgC dgC0
  rw [hx.1.1, dy_one1.fin]
  have hs : isSetB [(j : Int)] (W * H) = true := by
    unfold isSetB
    exact allN_iff.2 fun i hi => by
      have : i = 0 := by simpa using hi
      subst this
      unfold setAt
      have : inR (j : Int) 0 (W * H - 1) = true := by simp [inR]; omega
      simpa using this
  rw [hs]
  have := hD.1.1
  simpa using this
/-- A hill twice as high. -/
theorem twice_dy {w h : Nat} (hw : W = w) (hh : H = h) : DyH W H (tabN (fun i => fop .mul .f32 (xs.getD i 0) (canon .f32 1073741824)) (h * w)) (fun i => 2 * g i) ∧ (tabN (fun i => fop .mul .f32 (xs.getD i 0) (canon .f32 1073741824)) (h * w)).length = xs.length := by
  have hl := hill_len hx.1.1
  have hlen : h * w = xs.length := by
    have := hl.2.2.2.2.1
    rw [hw, hh, ← Int.natCast_mul, Nat.mul_comm] at this
    omega
  have l : (tabN (fun i => fop .mul .f32 (xs.getD i 0) (canon .f32 1073741824)) (h * w)).length = xs.length := by rw [tabN_len, hlen]
  refine ⟨mk_dyH hx.1.1 l fun i hi => ?_, l⟩
  rw [l] at hi
  rw [tabN_getD (fun i => fop .mul .f32 (xs.getD i 0) (canon .f32 1073741824)) (show i < h * w by omega) 0]
  obtain ⟨a1, a2, a3⟩ := hx.2 i hi
  have := h8 i hi
  have m := a3.mul dy_two0 (by rw [zOf_32]; omega) (by rw [b32]; omega)
  rw [Int.mul_comm] at m
  exact ⟨by omega, by omega, m, fop_lt _ _ _⟩
end
/-- What a hill twice as high has in its hollows. -/
theorem twice_hollow {W H : Int} {xs ys : List Nat} {g : Nat → Int} (hx : DyH W H xs g) (hy : DyH W H ys fun i => 2 * g i) (hl : ys.length = xs.length) (hn : xs.length ≤ 100) :
    hoB W H ys = true ∧ fcmp .lss .f64 (r8G (fwiden (hoN ys (filW W H ys) ys.length)) (fop .mul .f64 (canon .f64 4611686018427387904) (fwiden (hoN xs (filW W H xs) xs.length)))) (canon .f64 4562254508917369340) = true := by
  obtain ⟨p, hp⟩ := fil_dy hx
  obtain ⟨p2, hp2⟩ := fil_dy hy
  obtain ⟨a1, a2, a3, a4⟩ := hollow_ok hx hn hp
  obtain ⟨b1, b2, b3, b4⟩ := hollow_ok hy (by omega) hp2
  have e : sI (fun i => 2 * g (p2 i) - 2 * g i) ys.length = 2 * sI (fun i => g (p i) - g i) xs.length := by
    rw [hl, ← sI_mul]
    refine sI_congr _ fun i hi => ?_
    have := fil_twice hx hy hl (fun i _ => rfl) hp hp2 hi
    try dsimp only at this ⊢
    omega
  have b2 : Dy .f32 1 (sI (fun i => 2 * g (p2 i) - 2 * g i) ys.length) (hoN ys (filW W H ys) ys.length) := b2
  rw [e] at b2
  have d2 : Dy .f64 0 2 (canon .f64 4611686018427387904) := dyB_spec (by decide +kernel)
  have m := d2.mul a2.widen (by rw [zOf_64]; omega) (by rw [b64]; omega)
  exact ⟨b1, (gap_0 b2.widen m).2⟩

end Go.Proofs.Ytngmlbeafdaolaa
