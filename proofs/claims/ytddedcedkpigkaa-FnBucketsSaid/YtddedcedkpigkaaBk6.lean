/- What each function of this seat does (Bk6). Printed from templates of this seat's own. -/
import Derived.Test.YtddedcedkpigkaaBk5
namespace Go.Proofs.Ytddedcedkpigkaa
open Go.Ax Go.Bx
set_option maxRecDepth 8000
set_option linter.unusedSimpArgs false
set_option linter.unusedVariables false
/-- How far sums of steps may be off after some steps. -/
def gco : Nat → Int
  | 0 => 0
  | t + 1 => gco t + 5 * (4 * (4 * (1024 * (2 * t + 3) + 1) + 1026 * (8 * (t + 1))))
theorem gco_le : ∀ t : Nat, t ≤ 16 → gco t ≤ 46000000 := by decide +kernel
section
variable {cs : List Int} (hc : Byt cs) {n N : Nat} (hn : n ≤ 5) (hN : N ≤ 16) (hN0 : 0 < N) {sh : Nat} (hs : Unit .f32 false sh)
/-- The rain, in quarters. -/
noncomputable def rQ (cs : List Int) (N i : Nat) : Int := if i < N then drN cs 9 i else 0
include hc hN in
theorem rQ_b (i : Nat) : 0 ≤ rQ cs N i ∧ rQ cs N i ≤ 8 := by
  unfold rQ
  by_cases h : i < N
  · rw [if_pos h]; have := rain_facts hc (N := N) (by omega) h; exact ⟨this.2.2.2.1, this.2.2.2.2⟩
  · rw [if_neg h]; omega
include hc hN in
theorem rQ_sum (t : Nat) : 0 ≤ sm (rQ cs N) t ∧ sm (rQ cs N) t ≤ t * 8 := ⟨sm_nn t fun i _ => (rQ_b hc hN i).1, sm_le t fun i _ => (rQ_b hc hN i).2⟩
include hc hn hN hN0 hs in
theorem outs_near : ∀ t, t < N → ((4 * vF sh (List.replicate n (canon .f32 0)) (fsR cs N) t n - cv (rQ cs N) (fun j => vF sh (List.replicate n (canon .f32 0)) (ulR N) j n) t).natAbs : Int) ≤ 46000000 * Qu := by
  have hz := Zu_q
  have hq := Qu_big
  obtain ⟨s1, s2⟩ := unit_nn hs
  obtain ⟨_, ef⟩ := empty_facts hc hn hN hs
  obtain ⟨_, uf, _⟩ := unit_facts hn hN hN0 hs
  have l0 : (List.replicate n (canon .f32 0)).length = n := nz n
  have cX : ∀ t b, t < N → b < n → _ := fun t b ht hb => bk_cell (V := (2 * t + 3) * Zu) (e := (1024 * (2 * t + 3) + 1) * Qu) ((ef t ht b (by omega)).2 hb).1 (ef t ht b (by omega)).1 hs ((ef t ht b (by omega)).2 hb).2 (by
      have h1 : (2 * (t : Int) + 3) * Zu ≤ 35 * Zu := Int.mul_le_mul_of_nonneg_right (by omega) (by omega)
      have h2 : (1024 * (2 * (t : Int) + 3) + 1) * Qu ≤ 35841 * Qu := Int.mul_le_mul_of_nonneg_right (by omega) (by omega)
      omega) (by
      have h2 : (1024 * (2 * (t : Int) + 3) + 1) * Qu ≤ 35841 * Qu := Int.mul_le_mul_of_nonneg_right (by omega) (by omega)
      have h3 : (1024 * (2 * (t : Int) + 3) + 1) * Qu = 1024 * ((2 * t + 3) * Qu) + Qu := by rw [Int.add_mul, Int.mul_assoc, Int.one_mul]
      have h4 : (2 * (t : Int) + 3) * Zu = 17179869184 * ((2 * t + 3) * Qu) := by rw [hz, Int.mul_left_comm]
      omega)
  have cU : ∀ t b, t < N → b < n → _ := fun t b ht hb => bk_cell (V := Zu + 16777216 * Qu) (e := 1026 * Qu) ((uf t ht b (by omega)).2 hb).1 (uf t ht b (by omega)).1 hs ((uf t ht b (by omega)).2 hb).2 (by omega) (by omega)
  have f1 : ∀ {rs : List Nat} {t b : Nat}, b < n → fop .mul .f32 (fop .add .f32 (bN sh (List.replicate n (canon .f32 0)) rs t b) (bF sh (List.replicate n (canon .f32 0)) rs t b)) sh = bF sh (List.replicate n (canon .f32 0)) rs t (b + 1) := fun h => (bF_succ (by rw [l0]; exact h)).symm
  have f2 : ∀ {rs : List Nat} {t b : Nat}, b < n → fop .sub .f32 (fop .add .f32 (bN sh (List.replicate n (canon .f32 0)) rs t b) (bF sh (List.replicate n (canon .f32 0)) rs t b)) (bF sh (List.replicate n (canon .f32 0)) rs t (b + 1)) = bN sh (List.replicate n (canon .f32 0)) rs (t + 1) b := fun h => by
    rw [bN_succ (by rw [l0]; exact h), bF_succ (by rw [l0]; exact h)]; rfl
  have S := super (T := Zu) (S := sv .f32 sh) (eU := 1026 * Qu) (R := rQ cs N) (eX := fun t => (1024 * (2 * t + 3) + 1) * Qu) (n := n) (N := N)
    (nX := vN sh (List.replicate n (canon .f32 0)) (fsR cs N)) (fX := vF sh (List.replicate n (canon .f32 0)) (fsR cs N)) (mX := fun t b => sv .f32 (bM sh (List.replicate n (canon .f32 0)) (fsR cs N) t b))
    (nU := vN sh (List.replicate n (canon .f32 0)) (ulR N)) (fU := vF sh (List.replicate n (canon .f32 0)) (ulR N)) (mU := fun t b => sv .f32 (bM sh (List.replicate n (canon .f32 0)) (ulR N) t b))
    (by omega) s1.2 s2 (fun i => (rQ_b hc hN i).1)
    (fun t b ht hb => by
      have h := (cX t b ht hb).2.1
      dsimp only [vN, vF, bM] at h ⊢
      omega)
    (fun t b ht hb => by
      have h := (cX t b ht hb).2.2.1
      rw [f1 hb] at h
      dsimp only [vN, vF, bM] at h ⊢
      omega)
    (fun t b ht hb => by
      have h := (cX t b ht hb).2.2.2
      rw [f1 hb, f2 hb] at h
      dsimp only [vN, vF, bM] at h ⊢
      omega)
    (fun t b ht hb => by
      have h := (cU t b ht hb).2.1
      dsimp only [vN, vF, bM] at h ⊢
      omega)
    (fun t b ht hb => by
      have h := (cU t b ht hb).2.2.1
      rw [f1 hb] at h
      dsimp only [vN, vF, bM] at h ⊢
      omega)
    (fun t b ht hb => by
      have h := (cU t b ht hb).2.2.2
      rw [f1 hb, f2 hb] at h
      dsimp only [vN, vF, bM] at h ⊢
      omega)
    (fun b _ => rep_nn.2) (fun b _ => rep_nn.2)
    (fun t ht => by
      have h1 := (rain_facts hc (by omega) ht).2.2.1
      have h2 : vF sh (List.replicate n (canon .f32 0)) (ulR N) 0 0 = Zu := (unit_rain (c := N) (j := 0) (by omega)).2
      have h3 : rQ cs N t = drN cs 9 t := if_pos ht
      rw [h2, h3]; exact h1)
    (fun j hj hjN => by
      have h2 := (unit_rain (c := N) (j := j) (by omega)).2
      rw [if_neg (by omega)] at h2
      exact h2)
    (fun t => gco t * Qu) (by show (0 : Int) * Qu = 0; rw [Int.zero_mul])
    (fun t ht => by
      have h1 := rQ_sum hc hN (t + 1)
      have h2 : 1026 * Qu * sm (rQ cs N) (t + 1) ≤ 1026 * (8 * (t + 1)) * Qu := by
        have : 1026 * Qu * sm (rQ cs N) (t + 1) ≤ 1026 * Qu * (8 * (t + 1)) := Int.mul_le_mul_of_nonneg_left (by omega) (by omega)
        have e : 1026 * Qu * (8 * ((t : Int) + 1)) = 1026 * (8 * (t + 1)) * Qu := Int.mul_right_comm _ _ _
        rw [e] at this
        exact this
      have h0 : 0 ≤ 1026 * Qu * sm (rQ cs N) (t + 1) := Int.mul_nonneg (by omega) h1.1
      have h3 : 4 * ((1024 * (2 * (t : Int) + 3) + 1) * Qu) = (4 * (1024 * (2 * t + 3) + 1)) * Qu := by rw [Int.mul_assoc]
      have h5 : (0 : Int) ≤ (1024 * (2 * (t : Int) + 3) + 1) * Qu := Int.mul_nonneg (by omega) (by omega)
      have h4 : (n : Int) * (4 * (4 * ((1024 * (2 * (t : Int) + 3) + 1) * Qu) + 1026 * Qu * sm (rQ cs N) (t + 1))) ≤ 5 * (4 * (4 * ((1024 * (2 * (t : Int) + 3) + 1) * Qu) + 1026 * Qu * sm (rQ cs N) (t + 1))) := Int.mul_le_mul_of_nonneg_right (by omega) (by omega)
      have h6 : gco (t + 1) * Qu = gco t * Qu + 5 * (4 * ((4 * (1024 * (2 * (t : Int) + 3) + 1)) * Qu + 1026 * (8 * (t + 1)) * Qu)) := by
        rw [gco, Int.add_mul, Int.mul_assoc 5, Int.mul_assoc 4, Int.add_mul]
      rw [h3] at h4
      rw [h3, h6]
      omega)
  intro t ht
  have h := S t ht
  have h0 := sm_nn (f := fun b => ((4 * vN sh (List.replicate n (canon .f32 0)) (fsR cs N) (t + 1) b - cv (rQ cs N) (fun j => vN sh (List.replicate n (canon .f32 0)) (ulR N) (j + 1) b) t).natAbs : Int)) n fun i _ => by omega
  have h2 := gco_le (t + 1) (by omega)
  have h3 : gco (t + 1) * Qu ≤ 46000000 * Qu := Int.mul_le_mul_of_nonneg_right h2 (by omega)
  omega
end
section
variable {xs ys : List Nat} {R : Nat → Int} {N : Nat} (hx : ∀ i, i < N → NN .f32 (xs.getD i 0) ∧ 4 * vR xs i = R i * Zu ∧ vR xs i ≤ 2 * Zu) (hy : ∀ i, i < N → NN .f32 (ys.getD i 0) ∧ vR ys i ≤ Zu + 16777216 * Qu) (hl : ys.length = N) (hN : N ≤ 16)
include hx hy hl hN
/-- What is spread is near the sum of products. -/
theorem spread_near {r : Nat} (hr : r < N) : ∀ k : Nat, k ≤ r + 1 → NN .f32 (spreadAt xs ys r k) ∧ sv .f32 (spreadAt xs ys r k) ≤ k * (2 * Zu + 67108864 * Qu) ∧
    4 * sv .f32 (spreadAt xs ys r k) - sm (fun i => R i * vR ys (r - i)) k ≤ k * (8 * (36865 * Qu)) ∧ -(k * (8 * (36865 * Qu))) ≤ 4 * sv .f32 (spreadAt xs ys r k) - sm (fun i => R i * vR ys (r - i)) k
  | 0, _ => by
    have z := sv_zero
    have e : sv .f32 (spreadAt xs ys r 0) = 0 := z.2
    refine ⟨⟨z.1, by rw [e]; exact Int.le_refl _⟩, ?_, ?_, ?_⟩ <;> rw [e] <;> simp [sm]
  | k + 1, hk => by
    obtain ⟨h1, h2, h3, h4⟩ := spread_near hr k (by omega)
    have hz := Zu_q
    have hq := Qu_big
    obtain ⟨a1, a2, a3⟩ := hx k (by omega)
    obtain ⟨b1, b2⟩ := hy (r - k) (by omega)
    have p0 : sv .f32 (xs.getD k 0) * sv .f32 (ys.getD (r - k) 0) ≤ (2 * Zu + 33554432 * Qu) * Zu := by
      have : vR xs k * vR ys (r - k) ≤ (2 * Zu) * (Zu + 16777216 * Qu) := Int.mul_le_mul a3 b2 b1.2 (by omega)
      have e : (2 * Zu) * (Zu + 16777216 * Qu) = (2 * Zu + 33554432 * Qu) * Zu := by
        rw [Int.mul_comm (2 * Zu), ← Int.mul_assoc, Int.mul_comm _ 2, Int.mul_add]
        congr 1
      rw [e] at this
      exact this
    obtain ⟨m1, m2, m3⟩ := mul_w (V := 2 * Zu + 33554432 * Qu) (e := 36865 * Qu) a1 b1 p0 (by omega) (by omega)
    have c : ∀ {a b : Int}, a * Zu ≤ b * Zu → a ≤ b := fun h => Int.le_of_mul_le_mul_right h (by omega)
    have ep : 4 * (sv .f32 (xs.getD k 0) * sv .f32 (ys.getD (r - k) 0)) = R k * vR ys (r - k) * Zu := by
      rw [← Int.mul_assoc, show 4 * sv .f32 (xs.getD k 0) = R k * Zu from a2, Int.mul_right_comm]; rfl
    have q1 : 4 * sv .f32 (fop .mul .f32 (xs.getD k 0) (ys.getD (r - k) 0)) ≤ R k * vR ys (r - k) + 4 * (36865 * Qu) := c (by
      rw [Int.add_mul, Int.mul_assoc 4, Int.mul_assoc 4]; omega)
    have q2 : R k * vR ys (r - k) ≤ 4 * sv .f32 (fop .mul .f32 (xs.getD k 0) (ys.getD (r - k) 0)) + 4 * (36865 * Qu) := c (by
      rw [Int.add_mul, Int.mul_assoc 4, Int.mul_assoc 4]; omega)
    have q3 : sv .f32 (fop .mul .f32 (xs.getD k 0) (ys.getD (r - k) 0)) ≤ 2 * Zu + 33554432 * Qu + 36865 * Qu := c (by
      rw [Int.add_mul]; omega)
    have kb : (k : Int) * (2 * Zu + 67108864 * Qu) ≤ 15 * (2 * Zu + 67108864 * Qu) := Int.mul_le_mul_of_nonneg_right (by omega) (by omega)
    have g := add_v (V := 36 * Zu) (e := 36865 * Qu) h1 m1 (by omega) (by omega) (by omega)
    have e : spreadAt xs ys r (k + 1) = fop .add .f32 (spreadAt xs ys r k) (fop .mul .f32 (xs.getD k 0) (ys.getD (r - k) 0)) := by
      rw [spreadAt, if_pos (by omega)]
    have kE : ∀ z : Int, ((k + 1 : Nat) : Int) * z = k * z + z := fun z => by rw [Int.natCast_add, Int.add_mul]; simp
    rw [e, kE, kE]
    refine ⟨g.1, by omega, ?_, ?_⟩ <;> (simp only [sm]; omega)
end

end Go.Proofs.Ytddedcedkpigkaa
