/- FnExactDryRun: for every input the call returns true, and each argument reads afterwards as it read before. No condition. -/
import Derived.Test.YtkjdcbgliekjnaaRows
import Derived.Test.YtkjdcbgliekjnaaFnd
import Derived.Test.YtkjdcbgliekjnaaDryRunC
import Derived.Test.YtkjdcbgliekjnaaAxL
import Derived.ProofKit
import Derived.Carry
import Derived.OpenShut
import Derived.ShutString
import Derived.ChangeOld
import Derived.Below
namespace Go.Proofs.Ytkjdcbgliekjnaa
open Go.ChangeShapes Go.WideShapes Go.ChangeAt Go.RowKit
open Go.Ax (canon f32s canon_lt)

theorem own : ownKnob Try.prog.godebug = none := by kernel_rfl
theorem laidOut : laidOutB Try.prog = true := by kernel_rfl
set_option maxRecDepth 100000 in
theorem does (ys0 : List Nat) (b1 : Nat) : Ax.Does Try.prog 6 [.sli 1 ys0.length (f32s ys0) .undef, .flt .f32 (canon .f32 b1)] (.bool true) := by
  exact g6 _ _ (a6 ys0 (canon .f32 b1))
set_option maxRecDepth 100000 in
theorem walk (w : World) (ys0 : List Nat) (v0 : Value) (vr0 : ∀ Tg m L, Ax.VR w.heap.size Tg w m L (.sli 1 ys0.length (f32s ys0) .undef) v0)  (b1 : Nat) (l1 : b1 < 2 ^ 32) : Calls Try.prog 6 #[v0, .float .f32 b1] w fun e w' => e = .returned (.bool true) ∧ Below w.heap.size w w' := by
  refine Ax.law_calls (does ys0 b1) Try.func6 rfl (by kernel_rfl) w (fun _ => (0, 0)) _ ?_
  simp only [Ax.VRs]
  exact ⟨_, _, rfl, vr0 _ _ _, ⟨_, _, rfl, Ax.VR.f32 l1, rfl⟩⟩
set_option maxRecDepth 100000 in
theorem lifted (os : Os) (started : os.Started) (H : Type) (enc : TypeId × Value → H) :
    ReturnsInHanded {} Try.checked os 6 .any (Rows.fnExactDryRunSpec.pre6 enc Try.prog Try.f6 Rows.fnExactDryRunRow.domain false) (Rows.fnExactDryRunSpec.post enc Try.prog Try.f6 false true false false) := by
  refine returnsInHanded_of_change (C := Try.checked) own started (by kernel_rfl) Try.func6
    (ChangeSpec.witness6 (enc := enc) (C := Try.checked) false ⟨#[], #[.slice none 0 0, .float .f32 0], []⟩ 8 (by kernel_rfl) (by kernel_rfl) (by kernel_rfl) (by kernel_rfl)) ?_
  intro W base args ds gs before hval0 hW hcnd _
  have hval : ∀ (j : Nat) t v, Try.f6.params[j]? = some t → args[j]? = some v → Value.okWide Try.prog W .any base t v := hval0
  have hW' := hW
  obtain ⟨p, q, hA0, hV, rfl, hfz, hnd⟩ := hW
  have hA : DataW.TrodAll enc Try.prog W 0 (fun _ => true) true Try.f6.params.toList args.toList ds p := hA0
  rw [Try.params6] at hA hval
  obtain ⟨v0, vs0, d0, ds0, p0, q0, hargs, rfl, rfl, h0, r0⟩ := trodAll_cons hA
  obtain ⟨v1, vs1, d1, ds1, p1, q1, rfl, rfl, rfl, h1, r1⟩ := trodAll_cons r0
  obtain ⟨rfl, rfl, rfl⟩ := trodAll_nil r1
  obtain rfl : args = #[v0, v1] := by cases args; simp_all
  obtain ⟨rfl, rfl⟩ := trodVars_none hV
  have lt0 : ∀ x ∈ p0, x.block < W.heap.size := by obtain ⟨m, hm⟩ := h0; exact DataW.trod_lt m _ _ _ hm
  have lt1 : ∀ x ∈ p1, x.block < W.heap.size := by obtain ⟨m, hm⟩ := h1; exact DataW.trod_lt m _ _ _ hm
  obtain ⟨ys0, l0, vr0⟩ := Ax.slice_in Try.underlying38 Try.underlying22 (by kernel_rfl) (hval 0 38 v0 rfl rfl) h0
  obtain ⟨b1, rfl, l1⟩ := Ax.okWide_f32 Try.underlying22 (hval 1 22 v1 rfl rfl)
  refine (walk W ys0 v0 vr0 b1 l1).mono fun e W' ⟨he, bel⟩ => ?_
  subst he
  exact ⟨_, rfl, _, _, _, [], _, [], hW', trodAll_mk1 (shut_bool Try.underlying4 _), (trodAll_cons_mk (Below.trod laidOut (by kernel_rfl) (of_decide_eq_true (by kernel_rfl)) h0 bel lt0) (trodAll_cons_mk (Below.trod laidOut (by kernel_rfl) (of_decide_eq_true (by kernel_rfl)) h1 bel lt1) trodAll_mk0)), rfl, bel.frame _, fun h => by cases h⟩

/-- The statement. -/
theorem fnExactDryRun_holds : Rows.FnExactDryRunSaid :=
  OpenClaim.holds_of_wide 6 Try.f6 rfl rfl rfl rfl rfl rfl rfl ⟨rfl, rfl, rfl, rfl, rfl⟩ rfl rfl rfl rfl rfl (by kernel_rfl) Try.func6 closedFnExactDryRun
    (of_decide_eq_true (by kernel_rfl)) (by unfold Func.isWrapper; rw [if_neg (of_decide_eq_false (by kernel_rfl))]; exact ⟨rfl, rfl⟩)
    (fun os started H enc _ => lifted os started H enc)
end Go.Proofs.Ytkjdcbgliekjnaa
