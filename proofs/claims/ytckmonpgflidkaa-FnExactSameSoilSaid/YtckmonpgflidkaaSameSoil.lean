/- FnExactSameSoil: for every input the call returns true, and each argument reads afterwards as it read before. No condition. -/
import Derived.Test.YtckmonpgflidkaaRows
import Derived.Test.YtckmonpgflidkaaFns
import Derived.Test.YtckmonpgflidkaaAxB
import Derived.ProofKit
import Derived.Carry
import Derived.OpenShut
import Derived.ShutString
import Derived.ChangeOld
import Derived.Below
namespace Go.Proofs.Ytckmonpgflidkaa
open Go.ChangeShapes Go.WideShapes Go.ChangeAt Go.RowKit
open Go.Ax (canon f32s canon_lt)

theorem own : ownKnob Try.prog.godebug = none := by kernel_rfl
theorem laidOut : laidOutB Try.prog = true := by kernel_rfl
theorem does (bs0 : List Nat) (n0 : bs0.length = 5) (l0 : ∀ b ∈ bs0, b < 2 ^ 32) (bs1 : List Nat) (n1 : bs1.length = 5) (l1 : ∀ b ∈ bs1, b < 2 ^ 32) : Ax.Does Try.prog 5 [.agg (bs0.map fun b => .flt .f32 (canon .f32 b)), .agg (bs1.map fun b => .flt .f32 (canon .f32 b))] (.bool true) := by
  obtain ⟨c0_0, c0_1, c0_2, c0_3, c0_4, rfl⟩ := Ax.list5 n0
  obtain ⟨c1_0, c1_1, c1_2, c1_3, c1_4, rfl⟩ := Ax.list5 n1
  refine g5 _ _ ?_
  show (@ite _ _ _ (some (Ax.AV.bool true)) none) = _
  exact if_pos ⟨canon_lt (l0 _ (by simp)), canon_lt (l0 _ (by simp)), canon_lt (l0 _ (by simp)), canon_lt (l0 _ (by simp)), canon_lt (l0 _ (by simp)), canon_lt (l1 _ (by simp)), canon_lt (l1 _ (by simp)), canon_lt (l1 _ (by simp)), canon_lt (l1 _ (by simp)), canon_lt (l1 _ (by simp))⟩
theorem walk (bs0 : List Nat) (n0 : bs0.length = 5) (l0 : ∀ b ∈ bs0, b < 2 ^ 32) (bs1 : List Nat) (n1 : bs1.length = 5) (l1 : ∀ b ∈ bs1, b < 2 ^ 32) (w : World) : Calls Try.prog 5 #[.agg (bs0.map (.float .f32)).toArray, .agg (bs1.map (.float .f32)).toArray] w fun e w' => e = .returned (.bool true) ∧ Below w.heap.size w w' := by
  refine Ax.law_calls (does bs0 n0 l0 bs1 n1 l1) Try.func5 rfl (by kernel_rfl) w (fun _ => (0, 0)) _ ?_
  simp only [Ax.VRs]
  exact ⟨_, _, rfl, Ax.VR.aggf l0, ⟨_, _, rfl, Ax.VR.aggf l1, rfl⟩⟩
set_option maxRecDepth 100000 in
theorem lifted (os : Os) (started : os.Started) (H : Type) (enc : TypeId × Value → H) :
    ReturnsInHanded {} Try.checked os 5 .any (Rows.fnExactSameSoilSpec.pre6 enc Try.prog Try.f5 Rows.fnExactSameSoilRow.domain false) (Rows.fnExactSameSoilSpec.post enc Try.prog Try.f5 false true false false) := by
  refine returnsInHanded_of_change (C := Try.checked) own started (by kernel_rfl) Try.func5
    (ChangeSpec.witness6 (enc := enc) (C := Try.checked) false ⟨#[], #[.agg #[.float .f32 0, .float .f32 0, .float .f32 0, .float .f32 0, .float .f32 0], .agg #[.float .f32 0, .float .f32 0, .float .f32 0, .float .f32 0, .float .f32 0]], []⟩ 8 (by kernel_rfl) (by kernel_rfl) (by kernel_rfl) (by kernel_rfl)) ?_
  intro W base args ds gs before hval0 hW hcnd _
  have hval : ∀ (j : Nat) t v, Try.f5.params[j]? = some t → args[j]? = some v → Value.okWide Try.prog W .any base t v := hval0
  have hW' := hW
  obtain ⟨p, q, hA0, hV, rfl, hfz, hnd⟩ := hW
  have hA : DataW.TrodAll enc Try.prog W 0 (fun _ => true) true Try.f5.params.toList args.toList ds p := hA0
  rw [Try.params5] at hA hval
  obtain ⟨v0, vs0, d0, ds0, p0, q0, hargs, rfl, rfl, h0, r0⟩ := trodAll_cons hA
  obtain ⟨v1, vs1, d1, ds1, p1, q1, rfl, rfl, rfl, h1, r1⟩ := trodAll_cons r0
  obtain ⟨rfl, rfl, rfl⟩ := trodAll_nil r1
  obtain rfl : args = #[v0, v1] := by cases args; simp_all
  obtain ⟨rfl, rfl⟩ := trodVars_none hV
  have lt0 : ∀ x ∈ p0, x.block < W.heap.size := by obtain ⟨m, hm⟩ := h0; exact DataW.trod_lt m _ _ _ hm
  have lt1 : ∀ x ∈ p1, x.block < W.heap.size := by obtain ⟨m, hm⟩ := h1; exact DataW.trod_lt m _ _ _ hm
  obtain ⟨bs0, rfl, n0, l0⟩ := Ax.okWide_aggf (n := 5) (T := 22) Try.underlying36 (by kernel_rfl) Try.underlying22 (by kernel_rfl) (hval 0 36 v0 rfl rfl)
  obtain ⟨bs1, rfl, n1, l1⟩ := Ax.okWide_aggf (n := 5) (T := 22) Try.underlying36 (by kernel_rfl) Try.underlying22 (by kernel_rfl) (hval 1 36 v1 rfl rfl)
  refine (walk bs0 n0 l0 bs1 n1 l1 W).mono fun e W' ⟨he, bel⟩ => ?_
  subst he
  exact ⟨_, rfl, _, _, _, [], _, [], hW', trodAll_mk1 (shut_bool Try.underlying4 _), (trodAll_cons_mk (Below.trod laidOut (by kernel_rfl) (of_decide_eq_true (by kernel_rfl)) h0 bel lt0) (trodAll_cons_mk (Below.trod laidOut (by kernel_rfl) (of_decide_eq_true (by kernel_rfl)) h1 bel lt1) trodAll_mk0)), rfl, bel.frame _, fun h => by cases h⟩

/-- The statement. -/
theorem fnExactSameSoil_holds : Rows.FnExactSameSoilSaid :=
  OpenClaim.holds_of_wide 5 Try.f5 rfl rfl rfl rfl rfl rfl rfl ⟨rfl, rfl, rfl, rfl, rfl⟩ rfl rfl rfl rfl rfl (by kernel_rfl) Try.func5 (by kernel_rfl)
    (of_decide_eq_true (by kernel_rfl)) (by unfold Func.isWrapper; rw [if_neg (of_decide_eq_false (by kernel_rfl))]; exact ⟨rfl, rfl⟩)
    (fun os started H enc _ => lifted os started H enc)
end Go.Proofs.Ytckmonpgflidkaa
