/- FnExactStepSnow: for every input the call returns true, and each argument reads afterwards as it read before. No condition. -/
import Derived.Test.YtkjdcbgliekjnaaRows
import Derived.Test.YtkjdcbgliekjnaaFnf
import Derived.Test.YtkjdcbgliekjnaaStepSnowC
import Derived.Test.YtkjdcbgliekjnaaAxL
import Derived.ProofKit
import Derived.Carry
import Derived.OpenShut
import Derived.ShutString
import Derived.ChangeOld
import Derived.Below
namespace Go.Proofs.Ytkjdcbgliekjnaa
open Go.ChangeShapes Go.WideShapes Go.ChangeAt Go.RowKit
open Go.Ax (canon f32s canon_lt)

theorem own : ownKnob Try.prog.godebug = none := by kernel_rfl
theorem laidOut : laidOutB Try.prog = true := by kernel_rfl
set_option maxRecDepth 100000 in
theorem does (bs0 : List Nat) (n0 : bs0.length = 4) (l0 : ∀ b ∈ bs0, b < 2 ^ 32) (b1 : Nat) (b2 : Nat) (b3 : Nat) : Ax.Does Try.prog 12 [.agg (bs0.map fun b => .flt .f32 (canon .f32 b)), .flt .f32 (canon .f32 b1), .flt .f32 (canon .f32 b2), .flt .f32 (canon .f32 b3)] (.bool true) := by
  obtain ⟨c0_0, c0_1, c0_2, c0_3, rfl⟩ := Ax.list4 n0
  exact g12 _ _ rfl
set_option maxRecDepth 100000 in
theorem walk (w : World) (bs0 : List Nat) (n0 : bs0.length = 4) (l0 : ∀ b ∈ bs0, b < 2 ^ 32) (b1 : Nat) (l1 : b1 < 2 ^ 32) (b2 : Nat) (l2 : b2 < 2 ^ 32) (b3 : Nat) (l3 : b3 < 2 ^ 32) : Calls Try.prog 12 #[.agg (bs0.map (.float .f32)).toArray, .float .f32 b1, .float .f32 b2, .float .f32 b3] w fun e w' => e = .returned (.bool true) ∧ Below w.heap.size w w' := by
  refine Ax.law_calls (does bs0 n0 l0 b1 b2 b3) Try.func12 rfl (by kernel_rfl) w (fun _ => (0, 0)) _ ?_
  simp only [Ax.VRs]
  exact ⟨_, _, rfl, Ax.VR.aggf l0, ⟨_, _, rfl, Ax.VR.f32 l1, ⟨_, _, rfl, Ax.VR.f32 l2, ⟨_, _, rfl, Ax.VR.f32 l3, rfl⟩⟩⟩⟩
set_option maxRecDepth 100000 in
theorem lifted (os : Os) (started : os.Started) (H : Type) (enc : TypeId × Value → H) :
    ReturnsInHanded {} Try.checked os 12 .any (Rows.fnExactStepSnowSpec.pre6 enc Try.prog Try.f12 Rows.fnExactStepSnowRow.domain false) (Rows.fnExactStepSnowSpec.post enc Try.prog Try.f12 false true false false) := by
  refine returnsInHanded_of_change (C := Try.checked) own started (by kernel_rfl) Try.func12
    (ChangeSpec.witness6 (enc := enc) (C := Try.checked) false ⟨#[], #[.agg #[.float .f32 0, .float .f32 0, .float .f32 0, .float .f32 0], .float .f32 0, .float .f32 0, .float .f32 0], []⟩ 8 (by kernel_rfl) (by kernel_rfl) (by kernel_rfl) (by kernel_rfl)) ?_
  intro W base args ds gs before hval0 hW hcnd _
  have hval : ∀ (j : Nat) t v, Try.f12.params[j]? = some t → args[j]? = some v → Value.okWide Try.prog W .any base t v := hval0
  have hW' := hW
  obtain ⟨p, q, hA0, hV, rfl, hfz, hnd⟩ := hW
  have hA : DataW.TrodAll enc Try.prog W 0 (fun _ => true) true Try.f12.params.toList args.toList ds p := hA0
  rw [Try.params12] at hA hval
  obtain ⟨v0, vs0, d0, ds0, p0, q0, hargs, rfl, rfl, h0, r0⟩ := trodAll_cons hA
  obtain ⟨v1, vs1, d1, ds1, p1, q1, rfl, rfl, rfl, h1, r1⟩ := trodAll_cons r0
  obtain ⟨v2, vs2, d2, ds2, p2, q2, rfl, rfl, rfl, h2, r2⟩ := trodAll_cons r1
  obtain ⟨v3, vs3, d3, ds3, p3, q3, rfl, rfl, rfl, h3, r3⟩ := trodAll_cons r2
  obtain ⟨rfl, rfl, rfl⟩ := trodAll_nil r3
  obtain rfl : args = #[v0, v1, v2, v3] := by cases args; simp_all
  obtain ⟨rfl, rfl⟩ := trodVars_none hV
  have lt0 : ∀ x ∈ p0, x.block < W.heap.size := by obtain ⟨m, hm⟩ := h0; exact DataW.trod_lt m _ _ _ hm
  have lt1 : ∀ x ∈ p1, x.block < W.heap.size := by obtain ⟨m, hm⟩ := h1; exact DataW.trod_lt m _ _ _ hm
  have lt2 : ∀ x ∈ p2, x.block < W.heap.size := by obtain ⟨m, hm⟩ := h2; exact DataW.trod_lt m _ _ _ hm
  have lt3 : ∀ x ∈ p3, x.block < W.heap.size := by obtain ⟨m, hm⟩ := h3; exact DataW.trod_lt m _ _ _ hm
  obtain ⟨bs0, rfl, n0, l0⟩ := Ax.okWide_aggf (n := 4) (T := 22) Try.underlying49 (by kernel_rfl) Try.underlying22 (by kernel_rfl) (hval 0 49 v0 rfl rfl)
  obtain ⟨b1, rfl, l1⟩ := Ax.okWide_f32 Try.underlying22 (hval 1 22 v1 rfl rfl)
  obtain ⟨b2, rfl, l2⟩ := Ax.okWide_f32 Try.underlying22 (hval 2 22 v2 rfl rfl)
  obtain ⟨b3, rfl, l3⟩ := Ax.okWide_f32 Try.underlying22 (hval 3 22 v3 rfl rfl)
  refine (walk W bs0 n0 l0 b1 l1 b2 l2 b3 l3).mono fun e W' ⟨he, bel⟩ => ?_
  subst he
  exact ⟨_, rfl, _, _, _, [], _, [], hW', trodAll_mk1 (shut_bool Try.underlying4 _), (trodAll_cons_mk (Below.trod laidOut (by kernel_rfl) (of_decide_eq_true (by kernel_rfl)) h0 bel lt0) (trodAll_cons_mk (Below.trod laidOut (by kernel_rfl) (of_decide_eq_true (by kernel_rfl)) h1 bel lt1) (trodAll_cons_mk (Below.trod laidOut (by kernel_rfl) (of_decide_eq_true (by kernel_rfl)) h2 bel lt2) (trodAll_cons_mk (Below.trod laidOut (by kernel_rfl) (of_decide_eq_true (by kernel_rfl)) h3 bel lt3) trodAll_mk0)))), rfl, bel.frame _, fun h => by cases h⟩

/-- The statement. -/
theorem fnExactStepSnow_holds : Rows.FnExactStepSnowSaid :=
  OpenClaim.holds_of_wide 12 Try.f12 rfl rfl rfl rfl rfl rfl rfl ⟨rfl, rfl, rfl, rfl, rfl⟩ rfl rfl rfl rfl rfl (by kernel_rfl) Try.func12 closedFnExactStepSnow
    (of_decide_eq_true (by kernel_rfl)) (by unfold Func.isWrapper; rw [if_neg (of_decide_eq_false (by kernel_rfl))]; exact ⟨rfl, rfl⟩)
    (fun os started H enc _ => lifted os started H enc)
end Go.Proofs.Ytkjdcbgliekjnaa
