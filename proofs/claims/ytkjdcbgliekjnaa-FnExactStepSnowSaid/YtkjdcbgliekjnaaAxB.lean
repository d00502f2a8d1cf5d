/- From the row's words on an argument to the executor's. -/
import Derived.Test.YtkjdcbgliekjnaaAxZ
import Derived.ProofKit
namespace Go.Ax

theorem list1 {l : List Nat} (h : l.length = 1) : ∃ a, l = [a] := by
  match l, h with
  | [a], _ => exact ⟨a, rfl⟩
theorem list2 {l : List Nat} (h : l.length = 2) : ∃ a b, l = [a, b] := by
  match l, h with
  | [a, b], _ => exact ⟨a, b, rfl⟩
theorem list3 {l : List Nat} (h : l.length = 3) : ∃ a b c, l = [a, b, c] := by
  match l, h with
  | [a, b, c], _ => exact ⟨a, b, c, rfl⟩
theorem list4 {l : List Nat} (h : l.length = 4) : ∃ a b c d, l = [a, b, c, d] := by
  match l, h with
  | [a, b, c, d], _ => exact ⟨a, b, c, d, rfl⟩
theorem list5 {l : List Nat} (h : l.length = 5) : ∃ a b c d e, l = [a, b, c, d, e] := by
  match l, h with
  | [a, b, c, d, e], _ => exact ⟨a, b, c, d, e, rfl⟩
theorem list6 {l : List Nat} (h : l.length = 6) : ∃ a b c d e f, l = [a, b, c, d, e, f] := by
  match l, h with
  | [a, b, c, d, e, f], _ => exact ⟨a, b, c, d, e, f, rfl⟩
section
variable {P : Program} {w : World} {r : Reach} {base : Nat} {t T : TypeId} {v : Value} {B : Nat} {Tg : AV → Value → Prop} {m : Mp} {L : Loc}
theorem cellOk_f32 (hT : P.underlying T = some (.float .f32)) (h : Cell.okWide P w r base T v) : ∃ b, v = .float .f32 b ∧ b < 2 ^ 32 := by
  simp only [Cell.okWide, hT, Cell.ok] at h
  cases v <;> simp at h
  obtain ⟨rfl, h⟩ := h
  exact ⟨_, rfl, h⟩
theorem okWide_f32 (hT : P.underlying T = some (.float .f32)) (h : Value.okWide P w r base T v) : ∃ b, v = .float .f32 b ∧ b < 2 ^ 32 := by
  simp only [Value.okWide, hT] at h
  exact cellOk_f32 hT h
theorem floats_list : ∀ (l : List Value), (∀ v ∈ l, ∃ b, v = .float .f32 b ∧ b < 2 ^ 32) → ∃ bs : List Nat, l = bs.map (.float .f32) ∧ ∀ b ∈ bs, b < 2 ^ 32
  | [], _ => ⟨[], rfl, by simp⟩
  | v :: l, h => by
    obtain ⟨b, rfl, hb⟩ := h v (by simp)
    obtain ⟨bs, rfl, hbs⟩ := floats_list l fun u hu => h u (by simp [hu])
    exact ⟨b :: bs, rfl, by simpa using ⟨hb, hbs⟩⟩
theorem okWide_aggf {fs : Array Field} {n : Nat} (hs : P.underlying t = some (.struct fs)) (hts : P.cellTypes P.depth t = some (List.replicate n T)) (hT : P.underlying T = some (.float .f32)) (hC : P.cellsOf t = n) (h : Value.okWide P w r base t v) :
    ∃ bs : List Nat, v = .agg (bs.map (.float .f32)).toArray ∧ bs.length = n ∧ ∀ b ∈ bs, b < 2 ^ 32 := by
  simp only [Value.okWide, hs] at h
  obtain ⟨cs, rfl, hsz, ts, hts', _, hc⟩ := h
  rw [hts] at hts'; cases hts'
  obtain ⟨bs, hbs, hlt⟩ := floats_list cs.toList fun u hu => by
    obtain ⟨i, hi, e⟩ := List.getElem_of_mem hu
    obtain ⟨U, hU, hok⟩ := hc i u (by rw [← e]; simp)
    have : U = T := by
      have := List.mem_of_getElem? hU
      exact List.eq_of_mem_replicate this
    subst this
    exact cellOk_f32 hT hok
  refine ⟨bs, ?_, ?_, hlt⟩
  · rw [← hbs]
  · have := congrArg List.length hbs
    simp at this; omega
theorem VR.aggf {bs : List Nat} (h : ∀ b ∈ bs, b < 2 ^ 32) : VR B Tg w m L (.agg (bs.map fun b => .flt .f32 (canon .f32 b))) (.agg (bs.map (.float .f32)).toArray) := by
  simp only [VR]
  refine ⟨_, rfl, ?_⟩
  induction bs with
  | nil => simp [VRs]
  | cons b bs ih =>
    simp only [List.map_cons, VRs]
    exact ⟨_, _, rfl, VR.f32 (h b (by simp)), by simpa using ih fun c hc => h c (by simp [hc])⟩
end
end Go.Ax
