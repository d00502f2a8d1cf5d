/- FnExactLevelFor: for every input the call returns true, and each argument reads afterwards as it read before. No condition. -/
import Derived.Test.YtpelmabholoieaaRows
import Derived.Test.YtpelmabholoieaaLe5
import Derived.Test.YtpelmabholoieaaBxB
import Derived.ProofKit
import Derived.Carry
import Derived.OpenShut
import Derived.ShutString
import Derived.ChangeOld
import Derived.Below
namespace Go.Proofs.Ytpelmabholoieaa
open Go.ChangeShapes Go.WideShapes Go.ChangeAt Go.RowKit
open Go.Ax (canon canon_lt)
theorem own : ownKnob Try.prog.godebug = none := by kernel_rfl
theorem laidOut : laidOutB Try.prog = true := by kernel_rfl
set_option maxRecDepth 100000 in
theorem walk (w : World) (b0 : Nat) (l0 : b0 < 2 ^ 32) (b1 : Nat) (l1 : b1 < 2 ^ 32) (b2 : Nat) (l2 : b2 < 2 ^ 32) : Calls Try.prog 6 #[.float .f32 b0, .float .f32 b1, .float .f32 b2] w fun e w' => e = .returned (.bool true) ∧ Below w.heap.size w w' := by
  refine Bx.law_calls (lawLevel (canon .f32 b0) (canon_lt l0) (canon .f32 b1) (canon_lt l1) (canon .f32 b2) (canon_lt l2)) Try.func6 rfl (by kernel_rfl) w (fun _ => (0, 0)) _ ?_
  simp only [Bx.VRs]
  exact ⟨_, _, rfl, Bx.VR.f32 l0, ⟨_, _, rfl, Bx.VR.f32 l1, ⟨_, _, rfl, Bx.VR.f32 l2, rfl⟩⟩⟩
set_option maxRecDepth 100000 in
theorem lifted (os : Os) (started : os.Started) (H : Type) (enc : TypeId × Value → H) :
    ReturnsInHanded {} Try.checked os 6 .any (Rows.fnExactLevelForSpec.pre6 enc Try.prog Try.f6 Rows.fnExactLevelForRow.domain false) (Rows.fnExactLevelForSpec.post enc Try.prog Try.f6 false true false false) := by
  refine returnsInHanded_of_change (C := Try.checked) own started (by kernel_rfl) Try.func6
    (ChangeSpec.witness6 (enc := enc) (C := Try.checked) false ⟨#[], #[.float .f32 0, .float .f32 0, .float .f32 0], []⟩ 8 (by kernel_rfl) (by kernel_rfl) (by kernel_rfl) (by kernel_rfl)) ?_
  intro W base args ds gs before hval0 hW hcnd _
  have hval : ∀ (j : Nat) t v, Try.f6.params[j]? = some t → args[j]? = some v → Value.okWide Try.prog W .any base t v := hval0
  have hW' := hW
  obtain ⟨p, q, hA0, hV, rfl, hfz, hnd⟩ := hW
  have hA : DataW.TrodAll enc Try.prog W 0 (fun _ => true) true Try.f6.params.toList args.toList ds p := hA0
  rw [Try.params6] at hA hval
  obtain ⟨v0, vs0, d0, ds0, p0, q0, hargs, rfl, rfl, h0, r0⟩ := trodAll_cons hA
  obtain ⟨v1, vs1, d1, ds1, p1, q1, rfl, rfl, rfl, h1, r1⟩ := trodAll_cons r0
  obtain ⟨v2, vs2, d2, ds2, p2, q2, rfl, rfl, rfl, h2, r2⟩ := trodAll_cons r1
  obtain ⟨rfl, rfl, rfl⟩ := trodAll_nil r2
  obtain rfl : args = #[v0, v1, v2] := by cases args; simp_all
  obtain ⟨rfl, rfl⟩ := trodVars_none hV
  have lt0 : ∀ x ∈ p0, x.block < W.heap.size := by obtain ⟨m, hm⟩ := h0; exact DataW.trod_lt m _ _ _ hm
  have lt1 : ∀ x ∈ p1, x.block < W.heap.size := by obtain ⟨m, hm⟩ := h1; exact DataW.trod_lt m _ _ _ hm
  have lt2 : ∀ x ∈ p2, x.block < W.heap.size := by obtain ⟨m, hm⟩ := h2; exact DataW.trod_lt m _ _ _ hm
  obtain ⟨b0, rfl, l0⟩ := Bx.okWide_f32 Try.underlying22 (hval 0 22 v0 rfl rfl)
  obtain ⟨b1, rfl, l1⟩ := Bx.okWide_f32 Try.underlying22 (hval 1 22 v1 rfl rfl)
  obtain ⟨b2, rfl, l2⟩ := Bx.okWide_f32 Try.underlying22 (hval 2 22 v2 rfl rfl)
  refine (walk W b0 l0 b1 l1 b2 l2).mono fun e W' ⟨he, bel⟩ => ?_
  subst he
  exact ⟨_, rfl, _, _, _, [], _, [], hW', trodAll_mk1 (shut_bool Try.underlying4 _), (trodAll_cons_mk (Below.trod laidOut (by kernel_rfl) (of_decide_eq_true (by kernel_rfl)) h0 bel lt0) (trodAll_cons_mk (Below.trod laidOut (by kernel_rfl) (of_decide_eq_true (by kernel_rfl)) h1 bel lt1) (trodAll_cons_mk (Below.trod laidOut (by kernel_rfl) (of_decide_eq_true (by kernel_rfl)) h2 bel lt2) trodAll_mk0))), rfl, bel.frame _, fun h => by cases h⟩

/-- The statement. -/
theorem fnExactLevelFor_holds : Rows.FnExactLevelForSaid :=
  OpenClaim.holds_of_wide 6 Try.f6 rfl rfl rfl rfl rfl rfl rfl ⟨rfl, rfl, rfl, rfl, rfl⟩ rfl rfl rfl rfl rfl (by kernel_rfl) Try.func6 (by kernel_rfl)
    (of_decide_eq_true (by kernel_rfl)) (by unfold Func.isWrapper; rw [if_neg (of_decide_eq_false (by kernel_rfl))]; exact ⟨rfl, rfl⟩)
    (fun os started H enc _ => lifted os started H enc)
end Go.Proofs.Ytpelmabholoieaa
