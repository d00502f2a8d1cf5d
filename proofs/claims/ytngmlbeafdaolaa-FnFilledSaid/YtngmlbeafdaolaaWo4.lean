/- What each function of this seat does (Wo4). Printed from templates of this seat's own. -/
import Derived.Test.YtngmlbeafdaolaaWo3
namespace Go.Proofs.Ytngmlbeafdaolaa
open Go.Ax Go.Bx
set_option maxRecDepth 8000
set_option linter.unusedSimpArgs false
set_option linter.unusedVariables false
/-! What fills a hill. -/
theorem fil_level {W H : Int} {xs : List Nat} (hh : HillW W H xs) {i : Nat} (hi : i < xs.length) : ∃ j, j < xs.length ∧ P32 ((filW W H xs).getD i 0) = P32 (xs.getD j 0) := by
  have K := filK hh
  apply Classical.byContradiction
  intro hno
  have hno : ∀ j, j < xs.length → P32 ((filW W H xs).getD i 0) ≠ P32 (xs.getD j 0) := fun j hj e => hno ⟨j, hj, e⟩
  have := K.top (fun j => if P32 ((filW W H xs).getD j 0) = P32 ((filW W H xs).getD i 0) then P32 ((filW W H xs).getD i 0) + 1 else P32 ((filW W H xs).getD j 0)) ⟨fun j hj he => ?_, fun j hj he k hk hO => ?_⟩ i hi
  · try dsimp only at this
    rw [if_pos rfl] at this
    omega
  · have e := K.edge j hj he
    have := hno j hj
    dsimp only
    rw [if_neg (by omega)]
    omega
  · have n1 := (nbC_lt hh hO).2.2
    have h1 := K.fix j hj he k hk hO
    have h2 := K.up j hj
    have h3 := hno j hj
    dsimp only at h1 ⊢
    split <;> split <;> omega
theorem fil_idem {W H : Int} {xs : List Nat} (hh : HillW W H xs) : filW W H (filW W H xs) = filW W H xs := by
  have K := filK hh
  have hf := (filW_ok hh).1
  have fix : fhFix W H (filW W H xs) (filW W H xs) := by
    refine ⟨⟨rfl, fun i hi => (hf.nn hi).1, fun i hi _ => rfl, fun i hi => Int.le_refl _, fun q hq i hi => ?_⟩, fun i hi he k hk hO => by dsimp only; omega⟩
    have := K.top (fun j => max (q j) (P32 ((filW W H xs).getD j 0))) ⟨fun j hj he => ?_, fun j hj he k hk hO => ?_⟩ i (by rw [← K.len]; exact hi)
    · try dsimp only at this
      omega
    · have h1 := hq.1 j (by rw [K.len]; exact hj) he
      have h2 := K.edge j hj he
      dsimp only; omega
    · have h1 := hq.2 j (by rw [K.len]; exact hj) he k hk hO
      have h2 := K.fix j hj he k hk hO
      dsimp only at h1 h2 ⊢
      omega
  rw [← filW_eq hf fix]
  unfold filR
  apply List.ext_getElem
  · rw [tabN_len]
  · intro i h1 h2
    have e := tabN_getD (fun i => nzW ((filW W H xs).getD i 0) ((filW W H xs).getD i 0)) (show i < (filW W H xs).length from h2) 0
    rw [List.getD_eq_getElem?_getD, List.getElem?_eq_getElem h1, Option.getD_some] at e
    rw [e]
    have hn := (hf.nn h2).1
    unfold nzW
    rw [eql_num hn.1 hn.1, decide_eq_true rfl, cond_true, List.getD_eq_getElem?_getD, List.getElem?_eq_getElem h2]
    rfl
/-- A hill whose heights are few halves. -/
def DyH (W H : Int) (xs : List Nat) (g : Nat → Int) : Prop := HillW W H xs ∧ ∀ i, i < xs.length → -20 ≤ g i ∧ g i ≤ 20 ∧ Dy .f32 1 (g i) (xs.getD i 0)
theorem dy_pos {a b : Nat} {n : Int} (h : Dy .f32 1 n a) (hb : Ax.Fin .f32 b) (e : P32 b = P32 a) : Dy .f32 1 n b := by
  refine ⟨hb, h.2.1, ?_⟩
  have e : pos .f32 b = pos .f32 a := e
  have h1 := (pos_sv (k := .f32) (x := a) (y := b)).1 (by omega)
  have h2 := (pos_sv (k := .f32) (x := b) (y := a)).1 (by omega)
  rw [← h.2.2]; omega
theorem dy_le {a b : Nat} {n m : Int} (ha : Dy .f32 1 n a) (hb : Dy .f32 1 m b) : P32 a ≤ P32 b ↔ n ≤ m := ha.le_iff hb
theorem fin_F {W H : Int} {xs : List Nat} (hh : HillW W H xs) {i : Nat} (hi : i < xs.length) : Ax.Fin .f32 (xs.getD i 0) := by
  have := (hh.nn hi).2
  rw [fin_eq] at this
  unfold isFin at this
  have := of_decide_eq_true this
  exact this
/-- The filled heights, in halves; each is the height of some cell. -/
theorem fil_dy {W H : Int} {xs : List Nat} {g : Nat → Int} (hx : DyH W H xs g) : ∃ p : Nat → Nat, ∀ i, i < xs.length → p i < xs.length ∧ Dy .f32 1 (g (p i)) ((filW W H xs).getD i 0) ∧ P32 ((filW W H xs).getD i 0) = P32 (xs.getD (p i) 0) ∧ g i ≤ g (p i) ∧ (edB W H i = true → g (p i) = g i) := by
  have hh := hx.1
  have K := filK hh
  have hf := (filW_ok hh).1
  let p : Nat → Nat := fun i => if hi : i < xs.length then Classical.choose (fil_level hh hi) else 0
  have hp : ∀ i, i < xs.length → p i < xs.length ∧ P32 ((filW W H xs).getD i 0) = P32 (xs.getD (p i) 0) := fun i hi => by
    have := Classical.choose_spec (fil_level hh hi)
    show (if hi : i < xs.length then Classical.choose (fil_level hh hi) else 0) < _ ∧ _ = P32 (xs.getD (if hi : i < xs.length then Classical.choose (fil_level hh hi) else 0) 0)
    rw [dif_pos hi]; exact this
  refine ⟨p, fun i hi => ?_⟩
  obtain ⟨h1, h2⟩ := hp i hi
  have d := (hx.2 _ h1).2.2
  have di := (hx.2 i hi).2.2
  have up := K.up i hi
  rw [h2] at up
  refine ⟨h1, dy_pos d (fin_F hf (by rw [K.len]; exact hi)) h2, h2, (dy_le di d).1 up, fun he => ?_⟩
  have := K.edge i hi he
  rw [h2] at this
  have a := (dy_le di d).1 (by omega)
  have b := (dy_le d di).1 (by omega)
  omega
def sI (f : Nat → Int) : Nat → Int
  | 0 => 0
  | n + 1 => sI f n + f n
theorem sI_b {f : Nat → Int} {c : Int} : ∀ n : Nat, (∀ i, i < n → 0 ≤ f i ∧ f i ≤ c) → 0 ≤ sI f n ∧ sI f n ≤ n * c
  | 0, _ => by simp [sI]
  | n + 1, h => by
    have h1 := sI_b n fun i hi => h i (by omega)
    have h2 := h n (by omega)
    rw [sI, Int.natCast_add, Int.add_mul]
    simp only [Int.natCast_one, Int.one_mul]
    omega
theorem sI_congr {f g : Nat → Int} : ∀ n, (∀ i, i < n → f i = g i) → sI f n = sI g n
  | 0, _ => rfl
  | n + 1, h => by rw [sI, sI, sI_congr n fun i hi => h i (by omega), h n (by omega)]
theorem sI_mul {f : Nat → Int} (c : Int) : ∀ n, sI (fun i => c * f i) n = c * sI f n
  | 0 => by simp [sI]
  | n + 1 => by rw [sI, sI, sI_mul c n, Int.mul_add]
/-- The hollow of such a hill. -/
theorem hollow_dy {W H : Int} {xs : List Nat} {g : Nat → Int} (hx : DyH W H xs g) (hn : xs.length ≤ 100) {p : Nat → Nat} (hp : ∀ i, i < xs.length → p i < xs.length ∧ Dy .f32 1 (g (p i)) ((filW W H xs).getD i 0) ∧ P32 ((filW W H xs).getD i 0) = P32 (xs.getD (p i) 0) ∧ g i ≤ g (p i) ∧ (edB W H i = true → g (p i) = g i)) :
    ∀ k, k ≤ xs.length → Dy .f32 1 (sI (fun i => g (p i) - g i) k) (hoN xs (filW W H xs) k) ∧ 0 ≤ sI (fun i => g (p i) - g i) k ∧ sI (fun i => g (p i) - g i) k ≤ k * 40
  | 0, _ => ⟨dy_zero 1 (by omega), Int.le_refl _, by simp [sI]⟩
  | k + 1, hk => by
    obtain ⟨h1, h2, h3⟩ := hollow_dy hx hn hp k (by omega)
    obtain ⟨a1, a2, _, a3, _⟩ := hp k (by omega)
    obtain ⟨b1, b2, b3⟩ := hx.2 k (by omega)
    obtain ⟨c1, c2, _⟩ := hx.2 _ a1
    have d := a2.sub b3 (by rw [show 2 * FloatKind.f32.format.binade = 16777216 from by decide +kernel]; omega)
    have s := h1.add d (by rw [show 2 * FloatKind.f32.format.binade = 16777216 from by decide +kernel]; omega)
    rw [hoN]
    have e : sI (fun i => g (p i) - g i) (k + 1) = sI (fun i => g (p i) - g i) k + (g (p k) - g k) := rfl
    rw [e]
    exact ⟨s, by omega, by omega⟩
/-- A hill twice as high is filled twice as high. -/
theorem fil_twice {W H : Int} {xs ys : List Nat} {g g2 : Nat → Int} (hx : DyH W H xs g) (hy : DyH W H ys g2) (hl : ys.length = xs.length) (h2 : ∀ i, i < xs.length → g2 i = 2 * g i) {p p2 : Nat → Nat}
    (hp : ∀ i, i < xs.length → p i < xs.length ∧ Dy .f32 1 (g (p i)) ((filW W H xs).getD i 0) ∧ P32 ((filW W H xs).getD i 0) = P32 (xs.getD (p i) 0) ∧ g i ≤ g (p i) ∧ (edB W H i = true → g (p i) = g i))
    (hp2 : ∀ i, i < ys.length → p2 i < ys.length ∧ Dy .f32 1 (g2 (p2 i)) ((filW W H ys).getD i 0) ∧ P32 ((filW W H ys).getD i 0) = P32 (ys.getD (p2 i) 0) ∧ g2 i ≤ g2 (p2 i) ∧ (edB W H i = true → g2 (p2 i) = g2 i)) {i : Nat} (hi : i < xs.length) : g2 (p2 i) = 2 * g (p i) := by
  have Kx := filK hx.1
  have Ky := filK hy.1
  rw [hl] at hp2
  have gv : ∀ j, j < xs.length → g2 (p2 j) = 2 * g (p2 j) := fun j hj => h2 _ (hp2 j hj).1
  have up : g (p2 i) ≤ g (p i) := by
    have := Kx.top (fun j => P32 (xs.getD (p2 j) 0)) ⟨fun j hj he => ?_, fun j hj he k hk hO => ?_⟩ i hi
    · exact (dy_le (hx.2 _ (hp2 i hi).1).2.2 (hp i hi).2.1).1 this
    · have e := (hp2 j hj).2.2.2.2 he
      have := gv j hj
      have := h2 j hj
      exact (dy_le (hx.2 _ (hp2 j hj).1).2.2 (hx.2 j hj).2.2).2 (by omega)
    · have n1 := (nbC_lt hx.1 hO).2.2
      have h := Ky.fix j (by rw [hl]; exact hj) he k hk hO
      dsimp only at h ⊢
      have q1 := gv j hj
      have q2 := gv _ n1
      have q3 := h2 j hj
      rcases Int.le_total (P32 ((filW W H ys).getD (nbC W j k).toNat 0)) (P32 (ys.getD j 0)) with m | m
      · have m1 : P32 ((filW W H ys).getD j 0) ≤ P32 (ys.getD j 0) := by omega
        have := (dy_le (hp2 j hj).2.1 (hy.2 j (by rw [hl]; exact hj)).2.2).1 m1
        have := (dy_le (hx.2 _ (hp2 j hj).1).2.2 (hx.2 j hj).2.2).2 (by omega)
        omega
      · have m1 : P32 ((filW W H ys).getD j 0) ≤ P32 ((filW W H ys).getD (nbC W j k).toNat 0) := by omega
        have := (dy_le (hp2 j hj).2.1 (hp2 _ n1).2.1).1 m1
        have := (dy_le (hx.2 _ (hp2 j hj).1).2.2 (hx.2 _ (hp2 _ n1).1).2.2).2 (by omega)
        omega
  have dn : 2 * g (p i) ≤ g2 (p2 i) := by
    have := Ky.top (fun j => P32 (ys.getD (p j) 0)) ⟨fun j hj he => ?_, fun j hj he k hk hO => ?_⟩ i (by rw [hl]; exact hi)
    · have := (dy_le (hy.2 _ (by rw [hl]; exact (hp i hi).1)).2.2 (hp2 i hi).2.1).1 this
      rw [h2 _ (hp i hi).1] at this
      exact this
    · rw [hl] at hj
      have e := (hp j hj).2.2.2.2 he
      have a := h2 _ (hp j hj).1
      have b := h2 j hj
      exact (dy_le (hy.2 _ (by rw [hl]; exact (hp j hj).1)).2.2 (hy.2 j (by rw [hl]; exact hj)).2.2).2 (by omega)
    · rw [hl] at hj
      have n1 := (nbC_lt hx.1 hO).2.2
      have h := Kx.fix j hj he k hk hO
      dsimp only at h ⊢
      have a := h2 _ (hp j hj).1
      have b := h2 j hj
      have c := h2 _ (hp _ n1).1
      rcases Int.le_total (P32 ((filW W H xs).getD (nbC W j k).toNat 0)) (P32 (xs.getD j 0)) with m | m
      · have m1 : P32 ((filW W H xs).getD j 0) ≤ P32 (xs.getD j 0) := by omega
        have := (dy_le (hp j hj).2.1 (hx.2 j hj).2.2).1 m1
        have := (dy_le (hy.2 _ (by rw [hl]; exact (hp j hj).1)).2.2 (hy.2 j (by rw [hl]; exact hj)).2.2).2 (by omega)
        omega
      · have m1 : P32 ((filW W H xs).getD j 0) ≤ P32 ((filW W H xs).getD (nbC W j k).toNat 0) := by omega
        have := (dy_le (hp j hj).2.1 (hp _ n1).2.1).1 m1
        have := (dy_le (hy.2 _ (by rw [hl]; exact (hp j hj).1)).2.2 (hy.2 _ (by rw [hl]; exact (hp _ n1).1)).2.2).2 (by omega)
        omega
  have := gv i hi
  omega

end Go.Proofs.Ytngmlbeafdaolaa
