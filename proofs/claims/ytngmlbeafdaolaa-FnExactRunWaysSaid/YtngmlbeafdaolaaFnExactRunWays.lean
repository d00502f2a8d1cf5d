/- FnExactRunWays: for every input the call returns true, and each argument reads afterwards as it read before. No condition. -/
import Derived.Test.YtngmlbeafdaolaaRows
import Derived.Test.YtngmlbeafdaolaaRu3
import Derived.Test.YtngmlbeafdaolaaBxB
import Derived.ProofKit
import Derived.Carry
import Derived.OpenShut
import Derived.ShutString
import Derived.ChangeOld
import Derived.Below
namespace Go.Proofs.Ytngmlbeafdaolaa
open Go.ChangeShapes Go.WideShapes Go.ChangeAt Go.RowKit
open Go.Ax (canon canon_lt)
theorem own : ownKnob Try.prog.godebug = none := by kernel_rfl
theorem laidOut : laidOutB Try.prog = true := by kernel_rfl
set_option maxRecDepth 100000 in
theorem walk (w : World) (A0 B0 : Int) (ys0 : List Nat) (v0 : Value) (g0 : (IntKind.i64.min ≤ A0 ∧ A0 ≤ IntKind.i64.max) ∧ IntKind.i64.min ≤ B0 ∧ B0 ≤ IntKind.i64.max) (n0 : ys0.length < 2 ^ 63) (l0 : ∀ y ∈ ys0, y < 2 ^ 32) (vr0 : ∀ Tg m L, Bx.VR (fun b => b < w.heap.size) Tg w m L (.agg [.int .i64 A0, .int .i64 B0, .sli .f32 ys0 .undef]) v0) : Calls Try.prog 3 #[v0] w fun e w' => e = .returned (.bool true) ∧ Below w.heap.size w w' := by
  refine Bx.law_calls (lawRunWays A0 B0 ys0 g0 n0 l0) Try.func3 rfl (by kernel_rfl) w (fun _ => (0, 0)) _ ?_
  simp only [Bx.VRs]
  exact ⟨_, _, rfl, vr0 _ _ _, rfl⟩
set_option maxRecDepth 100000 in
theorem lifted (os : Os) (started : os.Started) (H : Type) (enc : TypeId × Value → H) :
    ReturnsInHanded {} Try.checked os 3 .any (Rows.fnExactRunWaysSpec.pre6 enc Try.prog Try.f3 Rows.fnExactRunWaysRow.domain false) (Rows.fnExactRunWaysSpec.post enc Try.prog Try.f3 false true false false) := by
  refine returnsInHanded_of_change (C := Try.checked) own started (by kernel_rfl) Try.func3
    (ChangeSpec.witness6 (enc := enc) (C := Try.checked) false ⟨#[], #[.agg #[.int .i64 0, .int .i64 0, .slice none 0 0]], []⟩ 8 (by kernel_rfl) (by kernel_rfl) (by kernel_rfl) (by kernel_rfl)) ?_
  intro W base args ds gs before hval0 hW hcnd _
  have hval : ∀ (j : Nat) t v, Try.f3.params[j]? = some t → args[j]? = some v → Value.okWide Try.prog W .any base t v := hval0
  have hW' := hW
  obtain ⟨p, q, hA0, hV, rfl, hfz, hnd⟩ := hW
  have hA : DataW.TrodAll enc Try.prog W 0 (fun _ => true) true Try.f3.params.toList args.toList ds p := hA0
  rw [Try.params3] at hA hval
  obtain ⟨v0, vs0, d0, ds0, p0, q0, hargs, rfl, rfl, h0, r0⟩ := trodAll_cons hA
  obtain ⟨rfl, rfl, rfl⟩ := trodAll_nil r0
  obtain rfl : args = #[v0] := by cases args; simp_all
  obtain ⟨rfl, rfl⟩ := trodVars_none hV
  have lt0 : ∀ x ∈ p0, x.block < W.heap.size := by obtain ⟨m, hm⟩ := h0; exact DataW.trod_lt m _ _ _ hm
  obtain ⟨A0, B0, ys0, g0, n0, l0, vr0⟩ := Bx.hill_in Try.underlying24 (by kernel_rfl) (by kernel_rfl) Try.underlying2 Try.underlying22 Try.underlying41 (by kernel_rfl) (f2 := _) rfl rfl rfl (by kernel_rfl) (hval 0 24 v0 rfl rfl) h0
  refine (walk W A0 B0 ys0 v0 g0 n0 l0 vr0).mono fun e W' ⟨he, bel⟩ => ?_
  subst he
  exact ⟨_, rfl, _, _, _, [], _, [], hW', trodAll_mk1 (shut_bool Try.underlying4 _), (trodAll_cons_mk (Below.trod laidOut (by kernel_rfl) (of_decide_eq_true (by kernel_rfl)) h0 bel lt0) trodAll_mk0), rfl, bel.frame _, fun h => by cases h⟩

/-- The statement. -/
theorem fnExactRunWays_holds : Rows.FnExactRunWaysSaid :=
  OpenClaim.holds_of_wide 3 Try.f3 rfl rfl rfl rfl rfl rfl rfl ⟨rfl, rfl, rfl, rfl, rfl⟩ rfl rfl rfl rfl rfl (by kernel_rfl) Try.func3 (by kernel_rfl)
    (of_decide_eq_true (by kernel_rfl)) (by unfold Func.isWrapper; rw [if_neg (of_decide_eq_false (by kernel_rfl))]; exact ⟨rfl, rfl⟩)
    (fun os started H enc _ => lifted os started H enc)
end Go.Proofs.Ytngmlbeafdaolaa
