/- Slices of float32s that come in; functions that copy a list, or go through one or two. -/
import Derived.Test.YtkjdcbgliekjnaaAxB
import Derived.Deep.Slices
namespace Go.Ax

section
variable {P : Program} {w : World} {B : Nat} {Tg : AV → Value → Prop} {m : Mp} {L : Loc} {H : Type} {enc : TypeId × Value → H} {t e : TypeId} {v : Value} {d : DataW H} {p : List MemPlace} {base : Nat}
theorem VRat_of : ∀ (xs : List AV) (b off : Nat), (∀ i x, xs[i]? = some x → ∃ c, w.cell? ⟨b, off + i, none⟩ = some c ∧ VR B Tg w m L x c) → VRat B Tg w m L xs b off
  | [], _, _, _ => by simp [VRat]
  | x :: xs, b, off, h => by
    simp only [VRat]
    refine ⟨by simpa using h 0 x rfl, VRat_of xs b (off + 1) fun i y hy => ?_⟩
    have := h (i + 1) y (by simpa using hy)
    rwa [show off + (i + 1) = off + 1 + i by omega] at this
theorem trod_f32 {n : Nat} {x : Value} {y : DataW H × List MemPlace} {spare : Nat → Bool} {held : Bool} (he : P.underlying e = some (.float .f32)) (h : DataW.trod enc P w 0 spare held n e [x] = some y) : ∃ b, x = .float .f32 b ∧ b < 2 ^ 32 := by
  cases n with
  | zero => simp [DataW.trod] at h
  | succ n =>
    simp only [DataW.trod, he] at h
    cases x <;> simp at h
    rename_i k b
    cases k
    · simp [Lit.wf] at h; exact ⟨b, rfl, h.1⟩
    · simp at h
/-- A slice of float32s that came in: its length, its numbers. -/
theorem slice_f32 (ht : P.underlying t = some (.slice e)) (he : P.underlying e = some (.float .f32)) (hc : P.cellsOf e = 1) (hval : Value.okWide P w .any base t v) (h : DataW.Trod enc P w 0 (fun _ => true) true t v d p) :
    ∃ bs : List Nat, (∀ b ∈ bs, b < 2 ^ 32) ∧ ∀ Tg m L, VR w.heap.size Tg w m L (.sli 1 bs.length (f32s (bs.map (canon .f32))) .undef) v := by
  obtain ⟨fuel, hf⟩ := h
  obtain ⟨a0, len0, cap0, rfl⟩ := WideShapes.okWide_slice ht hval
  rcases Deep.open_slice1 ht hc hf with ⟨hcs, _⟩ | ⟨a, len, cap, mm, n, V, D, Pl, hcs, hb, hl, hm, hmm, hx, hV⟩
  · simp [Value.cells] at hcs
    obtain ⟨rfl, rfl, rfl⟩ := hcs
    exact ⟨[], by simp, fun Tg m L => by simp [VR, f32s, tagged]⟩
  · skip
    simp [Value.cells] at hcs
    obtain ⟨rfl, rfl, rfl⟩ := hcs
    simp only [if_true] at hmm
    subst hmm
    simp only [Value.okWide, ht, Cell.okWide, Cell.ok, World.has] at hval
    obtain ⟨_, _, _, hspot, row, cells, hsh, _⟩ := hval
    obtain ⟨b, off, spot⟩ := a
    simp only at hspot; subst hspot
    have hblk : b < w.heap.size := by
      rcases Nat.lt_or_ge b w.heap.size with h' | h'
      · exact h'
      · simp [World.shape?, Array.getElem?_eq_none h'] at hsh
    have hfl : ∀ i, i < mm → ∃ c : Nat, w.cell? ⟨b, off + i, none⟩ = some (.float .f32 c) ∧ c < 2 ^ 32 := fun i hi => by
      obtain ⟨h1, h2⟩ := hV i hi
      obtain ⟨c, hc1, hc2⟩ := trod_f32 he h2
      refine ⟨c, ?_, hc2⟩
      rw [hc1] at h1
      by_cases hz : i = 0
      · subst hz; exact h1
      · simpa [Addr.add, hz] using h1
    obtain ⟨F, hF⟩ := Deep.choose_lt (α := Nat) (p := fun i c => w.cell? ⟨b, off + i, none⟩ = some (.float .f32 c) ∧ c < 2 ^ 32) hfl
    refine ⟨(List.range len0).map F, fun c hc => ?_, fun Tg m L => ?_⟩
    · obtain ⟨i, hi, rfl⟩ := List.mem_map.1 hc
      exact (hF i (by have := List.mem_range.1 hi; omega)).2
    · simp only [VR, List.length_map, List.length_range]
      refine ⟨trivial, by simp [f32s], fun x hx => ?_, .inr ⟨b, off, _, rfl, hblk, VRat_of _ _ _ fun i x hx => ?_⟩⟩
      · simp only [f32s, List.mem_map] at hx
        obtain ⟨c, _, rfl⟩ := hx; rfl
      · simp only [f32s, List.getElem?_map, Option.map_eq_some_iff] at hx
        obtain ⟨c, ⟨c', ⟨j, hj, rfl⟩, rfl⟩, rfl⟩ := hx
        have hji : j = i ∧ i < len0 := by
          obtain ⟨h1, h2⟩ := List.getElem?_eq_some_iff.1 hj
          simp at h1 h2
          exact ⟨h2.symm, h1⟩
        obtain ⟨rfl, hi⟩ := hji
        obtain ⟨h1, h2⟩ := hF j (by omega)
        exact ⟨_, h1, VR.f32 h2⟩
theorem slice_in (ht : P.underlying t = some (.slice e)) (he : P.underlying e = some (.float .f32)) (hc : P.cellsOf e = 1) (hval : Value.okWide P w .any base t v) (h : DataW.Trod enc P w 0 (fun _ => true) true t v d p) :
    ∃ ys : List Nat, (∀ y ∈ ys, y < 2 ^ 32) ∧ ∀ Tg m L, VR w.heap.size Tg w m L (.sli 1 ys.length (f32s ys) .undef) v := by
  obtain ⟨bs, h1, h2⟩ := slice_f32 ht he hc hval h
  refine ⟨bs.map (canon .f32), fun y hy => ?_, fun Tg m L => by rw [List.length_map]; exact h2 Tg m L⟩
  obtain ⟨b, hb, rfl⟩ := List.mem_map.1 hy
  exact canon_lt (h1 b hb)
end

/-! ### Filling a new slice -/
theorem upd_upd {α : Type} (f : Nat → α) (k : Nat) (a b : α) : upd (upd f k a) k b = upd f k b := by
  funext i; unfold upd; split <;> rfl
theorem zerosA_length (z : Value) (n : Nat) : (zerosA z n).length = n := by unfold zerosA; split <;> simp
theorem stB_flt {P : Program} {T : TypeId} (hT : szOf P T = some 1) {L : Loc} {k g i y : Nat} {cells : List AV} (hi : i < cells.length) :
    stB P (upd L k (g, some cells)) T (.loc k g i) (.flt .f32 y) = some (upd L k (g, some (cells.set i (.flt .f32 y)))) := by
  have h1 : livesA (upd L k (g, some cells)) (.flt .f32 y) = true := rfl
  unfold stB
  rw [if_pos (by simp [h1, cellsA])]
  simp only [stA, upd_same, cellsA]
  rw [if_pos trivial, if_pos ⟨hT, by simp; omega, by simp [oneA]⟩]
  simp only [setsA, upd_upd]
theorem take_set {cells : List AV} {xs ys : List Nat} {i y : Nat} (hi : i < cells.length) (h : cells.take i = f32s (xs.take i)) (hd : xs.drop i = y :: ys) : (cells.set i (.flt .f32 y)).take (i + 1) = f32s (xs.take (i + 1)) := by
  have hx : xs[i]? = some y := by
    have := congrArg (·[0]?) hd
    simpa using this
  rw [List.take_add_one, List.take_add_one, hx]
  simp only [f32s, List.map_append]
  rw [List.take_set_of_le (Nat.le_refl i)]
  have : (cells.set i (.flt .f32 y))[i]? = some (.flt .f32 y) := by simp [hi]
  rw [this]
  unfold f32s at h
  rw [h]; rfl
theorem exV_own {L : Loc} {k g n : Nat} {cells : List AV} {xs : List Nat} (hn : n = xs.length) (hl : cells.length = n) (h : cells.take n = f32s (xs.take n)) : exV 4 [k] (upd L k (g, some cells)) (.lsl k g 0 n 1) = .own 0 1 n (f32s xs) := by
  subst hn
  rw [List.take_length] at h
  simp only [exV, upd_same]
  rw [if_pos ⟨trivial, trivial, by simp⟩, if_pos (by omega), Nat.mul_one, h]
  have : (f32s xs).map pl = f32s xs := by unfold f32s; rw [List.map_map]; exact List.map_congr_left fun x _ => rfl
  rw [this]
  simp
theorem fz_own {L : Loc} {k g : Nat} {xs : List Nat} (h : L k = (g, some (f32s xs))) : fz 4 L (.lsl k g 0 xs.length 1) = .sli 1 xs.length (f32s xs) (.lsl k g 0 xs.length 1) := by
  have hl : (f32s xs).length = xs.length := by simp [f32s]
  simp only [fz, h]
  rw [if_pos trivial, if_pos (by omega), List.drop_zero, Nat.mul_one, ← hl, List.take_length]
  have : (f32s xs).map pl = f32s xs := by unfold f32s; rw [List.map_map]; exact List.map_congr_left fun x _ => rfl
  rw [this]
end Go.Ax
