/- FnLooks: for every input the call returns true, and each argument reads afterwards as it read before. No condition. -/
import Derived.Test.YtagiajolklbbiaaRows
import Derived.Test.YtagiajolklbbiaaLka
import Derived.Test.YtagiajolklbbiaaBxB
import Derived.ProofKit
import Derived.Carry
import Derived.OpenShut
import Derived.ShutString
import Derived.ChangeOld
import Derived.Below
namespace Go.Proofs.Ytagiajolklbbiaa
open Go.ChangeShapes Go.WideShapes Go.ChangeAt Go.RowKit
open Go.Ax (canon canon_lt)
theorem own : ownKnob Try.prog.godebug = none := by kernel_rfl
theorem laidOut : laidOutB Try.prog = true := by kernel_rfl
set_option maxRecDepth 100000 in
theorem walk (w : World) (ys0 : List Int) (v0 : Value) (n0 : ys0.length < 2 ^ 63) (l0 : ∀ y ∈ ys0, IntKind.u8.min ≤ y ∧ y ≤ IntKind.u8.max) (vr0 : ∀ Tg m L, Bx.VR (fun b => b < w.heap.size) Tg w m L (.sli (.int .u8) ys0 .undef) v0) (ys1 : List Int) (v1 : Value) (n1 : ys1.length < 2 ^ 63) (l1 : ∀ y ∈ ys1, IntKind.u8.min ≤ y ∧ y ≤ IntKind.u8.max) (vr1 : ∀ Tg m L, Bx.VR (fun b => b < w.heap.size) Tg w m L (.sli (.int .u8) ys1 .undef) v1) : Calls Try.prog 3 #[v0, v1] w fun e w' => e = .returned (.bool true) ∧ Below w.heap.size w w' := by
  refine Bx.law_calls (lawLooks ys0 n0 l0 ys1 n1 l1) Try.func3 rfl (by kernel_rfl) w (fun _ => (0, 0)) _ ?_
  simp only [Bx.VRs]
  exact ⟨_, _, rfl, vr0 _ _ _, ⟨_, _, rfl, vr1 _ _ _, rfl⟩⟩
set_option maxRecDepth 100000 in
theorem lifted (os : Os) (started : os.Started) (H : Type) (enc : TypeId × Value → H) :
    ReturnsInHanded {} Try.checked os 3 .any (Rows.fnLooksSpec.pre6 enc Try.prog Try.f3 Rows.fnLooksRow.domain false) (Rows.fnLooksSpec.post enc Try.prog Try.f3 false true false false) := by
  refine returnsInHanded_of_change (C := Try.checked) own started (by kernel_rfl) Try.func3
    (ChangeSpec.witness6 (enc := enc) (C := Try.checked) false ⟨#[], #[.slice none 0 0, .slice none 0 0], []⟩ 8 (by kernel_rfl) (by kernel_rfl) (by kernel_rfl) (by kernel_rfl)) ?_
  intro W base args ds gs before hval0 hW hcnd _
  have hval : ∀ (j : Nat) t v, Try.f3.params[j]? = some t → args[j]? = some v → Value.okWide Try.prog W .any base t v := hval0
  have hW' := hW
  obtain ⟨p, q, hA0, hV, rfl, hfz, hnd⟩ := hW
  have hA : DataW.TrodAll enc Try.prog W 0 (fun _ => true) true Try.f3.params.toList args.toList ds p := hA0
  rw [Try.params3] at hA hval
  obtain ⟨v0, vs0, d0, ds0, p0, q0, hargs, rfl, rfl, h0, r0⟩ := trodAll_cons hA
  obtain ⟨v1, vs1, d1, ds1, p1, q1, rfl, rfl, rfl, h1, r1⟩ := trodAll_cons r0
  obtain ⟨rfl, rfl, rfl⟩ := trodAll_nil r1
  obtain rfl : args = #[v0, v1] := by cases args; simp_all
  obtain ⟨rfl, rfl⟩ := trodVars_none hV
  have lt0 : ∀ x ∈ p0, x.block < W.heap.size := by obtain ⟨m, hm⟩ := h0; exact DataW.trod_lt m _ _ _ hm
  have lt1 : ∀ x ∈ p1, x.block < W.heap.size := by obtain ⟨m, hm⟩ := h1; exact DataW.trod_lt m _ _ _ hm
  obtain ⟨ys0, n0, l0, vr0⟩ := Bx.slice_trod (r := (.int .u8)) Try.underlying22 (by kernel_rfl) (fun _ _ _ h hl => Bx.row_int Try.underlying5 h hl) (hval 0 22 v0 rfl rfl) h0.choose_spec
  obtain ⟨ys1, n1, l1, vr1⟩ := Bx.slice_trod (r := (.int .u8)) Try.underlying22 (by kernel_rfl) (fun _ _ _ h hl => Bx.row_int Try.underlying5 h hl) (hval 1 22 v1 rfl rfl) h1.choose_spec
  refine (walk W ys0 v0 n0 l0 vr0 ys1 v1 n1 l1 vr1).mono fun e W' ⟨he, bel⟩ => ?_
  subst he
  exact ⟨_, rfl, _, _, _, [], _, [], hW', trodAll_mk1 (shut_bool Try.underlying4 _), (trodAll_cons_mk (Below.trod laidOut (by kernel_rfl) (of_decide_eq_true (by kernel_rfl)) h0 bel lt0) (trodAll_cons_mk (Below.trod laidOut (by kernel_rfl) (of_decide_eq_true (by kernel_rfl)) h1 bel lt1) trodAll_mk0)), rfl, bel.frame _, fun h => by cases h⟩

/-- The statement. -/
theorem fnLooks_holds : Rows.FnLooksSaid :=
  OpenClaim.holds_of_wide 3 Try.f3 rfl rfl rfl rfl rfl rfl rfl ⟨rfl, rfl, rfl, rfl, rfl⟩ rfl rfl rfl rfl rfl (by kernel_rfl) Try.func3 (by kernel_rfl)
    (of_decide_eq_true (by kernel_rfl)) (by unfold Func.isWrapper; rw [if_neg (of_decide_eq_false (by kernel_rfl))]; exact ⟨rfl, rfl⟩)
    (fun os started H enc _ => lifted os started H enc)
end Go.Proofs.Ytagiajolklbbiaa
