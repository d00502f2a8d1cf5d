/- What each function of this seat does (Cat). Printed from templates of this seat's own. -/
import Derived.Test.YtldlfjcaaaigkaaPat
namespace Go.Proofs.Ytldlfjcaaaigkaa
open Go.Ax Go.Bx
set_option maxRecDepth 8000
set_option linter.unusedSimpArgs false
set_option linter.unusedVariables false
def ctU (l : List Int) (c : Int) : List Int := l.set c.toNat (l.getD c.toNat 0 + 1)
@[simp] theorem ctU_len (l : List Int) (c : Int) : (ctU l c).length = l.length := by simp [ctU]
theorem fo_ctU_len (l : List Int) (p : List Int) : ∀ j, (fo ctU l p j).length = l.length := by
  intro j
  unfold fo
  generalize p.take j = q
  induction q generalizing l with
  | nil => rfl
  | cons x q ih => rw [List.foldl_cons, ih, ctU_len]
def Bnd (l : List Int) (B : Int) : Prop := ∀ k : Nat, 0 ≤ l.getD k 0 ∧ l.getD k 0 ≤ B
theorem ctU_bnd {l : List Int} {B c : Int} (h : Bnd l B) : Bnd (ctU l c) (B + 1) := fun k => by
  unfold ctU
  have hk := h k
  have hc := h c.toNat
  by_cases e : k = c.toNat
  · by_cases hl : c.toNat < l.length
    · rw [e, getD_set _ _ _ _ hl]; omega
    · rw [List.set_eq_of_length_le (by omega)]; omega
  · rw [List.getD_eq_getElem?_getD, List.getElem?_set_ne (fun h => e h.symm), ← List.getD_eq_getElem?_getD]; omega
theorem fo_bnd {l : List Int} {B : Int} {p : List Int} (h : Bnd l B) : ∀ j, j ≤ p.length → Bnd (fo ctU l p j) (B + j)
  | 0, _ => by simpa [fo] using h
  | j + 1, hj => by
    rw [fo_succ ctU l (show j < p.length by omega) (0 : Int)]
    have := ctU_bnd (c := p.getD j 0) (fo_bnd (p := p) h j (by omega))
    rw [show B + ((j + 1 : Nat) : Int) = B + j + 1 by omega]; exact this
noncomputable def caS (ds : List Int) : Nat → List Int
  | 0 => List.replicate ds.length (0 : Int)
  | i + 1 => (paL ds i).foldl ctU (caS ds i)
theorem caS_len (ds : List Int) : ∀ i, (caS ds i).length = ds.length
  | 0 => by simp [caS]
  | i + 1 => by rw [caS, ← fo_all, fo_ctU_len, caS_len ds i]
theorem caS_bnd {W H : Int} {ds : List Int} (hW : Wys W H ds) : ∀ i, i ≤ ds.length → Bnd (caS ds i) ((i : Int) * 257)
  | 0, _ => fun k => by
    unfold caS
    rw [List.getD_eq_getElem?_getD, List.getElem?_replicate]
    split <;> simp
  | i + 1, hi => by
    have ih := caS_bnd hW i (by omega)
    have hl := hW.2.1
    have hm := hW.2.2.1
    obtain ⟨_, p3, p4, _⟩ := paM_spec hW (c := i) (by omega)
    have hpl : (paL ds i).length ≤ 257 := by rw [paL, tabN_len]; omega
    have := fo_bnd (p := paL ds i) ih (paL ds i).length (Nat.le_refl _)
    rw [fo_all] at this
    intro k
    have hk := this k
    rw [caS]
    rw [show ((i + 1 : Nat) : Int) * 257 = (i : Int) * 257 + 257 by omega]
    omega
theorem paL_range {W H c : Int} {ds : List Int} (hW : Wys W H ds) (hc : 0 ≤ c ∧ c < W * H) {j : Nat} (hj : j < (paL ds c).length) : 0 ≤ (paL ds c).getD j 0 ∧ (paL ds c).getD j 0 < W * H := by
  obtain ⟨⟨p1, p2⟩, p3, p4, p5⟩ := paM_spec hW hc
  rw [paL, tabN_len] at hj
  rw [paL, tabN_getD _ hj]
  exact ⟨p2 j hj, (p5 j).2⟩
noncomputable def caO (W H : Int) (xs : List Nat) (ds : List Int) : List Int := bif waysB W H xs ds then caS ds ds.length else []
theorem caO_len (W H : Int) (xs : List Nat) (ds : List Int) (h : ds.length ≤ 1048576) : (caO W H xs ds).length ≤ 1048576 := by
  unfold caO
  cases waysB W H xs ds
  · exact Nat.zero_le _
  · rw [cond_true, caS_len]; exact h

end Go.Proofs.Ytldlfjcaaaigkaa
