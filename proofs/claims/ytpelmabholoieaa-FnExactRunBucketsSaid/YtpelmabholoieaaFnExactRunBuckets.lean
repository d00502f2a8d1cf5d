/- FnExactRunBuckets: for every input the call returns true, and each argument reads afterwards as it read before. No condition. -/
import Derived.Test.YtpelmabholoieaaRows
import Derived.Test.YtpelmabholoieaaBk2
import Derived.Test.YtpelmabholoieaaBxB
import Derived.ProofKit
import Derived.Carry
import Derived.OpenShut
import Derived.ShutString
import Derived.ChangeOld
import Derived.Below
namespace Go.Proofs.Ytpelmabholoieaa
open Go.ChangeShapes Go.WideShapes Go.ChangeAt Go.RowKit
open Go.Ax (canon canon_lt)
theorem own : ownKnob Try.prog.godebug = none := by kernel_rfl
theorem laidOut : laidOutB Try.prog = true := by kernel_rfl
set_option maxRecDepth 100000 in
theorem walk (w : World) (ys0 : List Nat) (v0 : Value) (n0 : ys0.length < 2 ^ 63) (l0 : ∀ y ∈ ys0, y < 2 ^ 32) (vr0 : ∀ Tg m L, Bx.VR (fun b => b < w.heap.size) Tg w m L (.sli .f32 ys0 .undef) v0) (b1 : Nat) (l1 : b1 < 2 ^ 32) (b2 : Nat) (l2 : b2 < 2 ^ 32) (ys3 : List Nat) (v3 : Value) (n3 : ys3.length < 2 ^ 63) (l3 : ∀ y ∈ ys3, y < 2 ^ 32) (vr3 : ∀ Tg m L, Bx.VR (fun b => b < w.heap.size) Tg w m L (.sli .f32 ys3 .undef) v3) : Calls Try.prog 5 #[v0, .float .f32 b1, .float .f32 b2, v3] w fun e w' => e = .returned (.bool true) ∧ Below w.heap.size w w' := by
  refine Bx.law_calls (lawRunBuckets ys0 n0 l0 (canon .f32 b1) (canon_lt l1) (canon .f32 b2) (canon_lt l2) ys3 n3 l3) Try.func5 rfl (by kernel_rfl) w (fun _ => (0, 0)) _ ?_
  simp only [Bx.VRs]
  exact ⟨_, _, rfl, vr0 _ _ _, ⟨_, _, rfl, Bx.VR.f32 l1, ⟨_, _, rfl, Bx.VR.f32 l2, ⟨_, _, rfl, vr3 _ _ _, rfl⟩⟩⟩⟩
set_option maxRecDepth 100000 in
theorem lifted (os : Os) (started : os.Started) (H : Type) (enc : TypeId × Value → H) :
    ReturnsInHanded {} Try.checked os 5 .any (Rows.fnExactRunBucketsSpec.pre6 enc Try.prog Try.f5 Rows.fnExactRunBucketsRow.domain false) (Rows.fnExactRunBucketsSpec.post enc Try.prog Try.f5 false true false false) := by
  refine returnsInHanded_of_change (C := Try.checked) own started (by kernel_rfl) Try.func5
    (ChangeSpec.witness6 (enc := enc) (C := Try.checked) false ⟨#[], #[.slice none 0 0, .float .f32 0, .float .f32 0, .slice none 0 0], []⟩ 8 (by kernel_rfl) (by kernel_rfl) (by kernel_rfl) (by kernel_rfl)) ?_
  intro W base args ds gs before hval0 hW hcnd _
  have hval : ∀ (j : Nat) t v, Try.f5.params[j]? = some t → args[j]? = some v → Value.okWide Try.prog W .any base t v := hval0
  have hW' := hW
  obtain ⟨p, q, hA0, hV, rfl, hfz, hnd⟩ := hW
  have hA : DataW.TrodAll enc Try.prog W 0 (fun _ => true) true Try.f5.params.toList args.toList ds p := hA0
  rw [Try.params5] at hA hval
  obtain ⟨v0, vs0, d0, ds0, p0, q0, hargs, rfl, rfl, h0, r0⟩ := trodAll_cons hA
  obtain ⟨v1, vs1, d1, ds1, p1, q1, rfl, rfl, rfl, h1, r1⟩ := trodAll_cons r0
  obtain ⟨v2, vs2, d2, ds2, p2, q2, rfl, rfl, rfl, h2, r2⟩ := trodAll_cons r1
  obtain ⟨v3, vs3, d3, ds3, p3, q3, rfl, rfl, rfl, h3, r3⟩ := trodAll_cons r2
  obtain ⟨rfl, rfl, rfl⟩ := trodAll_nil r3
  obtain rfl : args = #[v0, v1, v2, v3] := by cases args; simp_all
  obtain ⟨rfl, rfl⟩ := trodVars_none hV
  have lt0 : ∀ x ∈ p0, x.block < W.heap.size := by obtain ⟨m, hm⟩ := h0; exact DataW.trod_lt m _ _ _ hm
  have lt1 : ∀ x ∈ p1, x.block < W.heap.size := by obtain ⟨m, hm⟩ := h1; exact DataW.trod_lt m _ _ _ hm
  have lt2 : ∀ x ∈ p2, x.block < W.heap.size := by obtain ⟨m, hm⟩ := h2; exact DataW.trod_lt m _ _ _ hm
  have lt3 : ∀ x ∈ p3, x.block < W.heap.size := by obtain ⟨m, hm⟩ := h3; exact DataW.trod_lt m _ _ _ hm
  obtain ⟨ys0, n0, l0, vr0⟩ := Bx.slice_trod (r := .f32) Try.underlying25 (by kernel_rfl) (fun _ _ _ h hl => Bx.row_f32 Try.underlying22 h hl) (hval 0 25 v0 rfl rfl) h0.choose_spec
  obtain ⟨b1, rfl, l1⟩ := Bx.okWide_f32 Try.underlying22 (hval 1 22 v1 rfl rfl)
  obtain ⟨b2, rfl, l2⟩ := Bx.okWide_f32 Try.underlying22 (hval 2 22 v2 rfl rfl)
  obtain ⟨ys3, n3, l3, vr3⟩ := Bx.slice_trod (r := .f32) Try.underlying25 (by kernel_rfl) (fun _ _ _ h hl => Bx.row_f32 Try.underlying22 h hl) (hval 3 25 v3 rfl rfl) h3.choose_spec
  refine (walk W ys0 v0 n0 l0 vr0 b1 l1 b2 l2 ys3 v3 n3 l3 vr3).mono fun e W' ⟨he, bel⟩ => ?_
  subst he
  exact ⟨_, rfl, _, _, _, [], _, [], hW', trodAll_mk1 (shut_bool Try.underlying4 _), (trodAll_cons_mk (Below.trod laidOut (by kernel_rfl) (of_decide_eq_true (by kernel_rfl)) h0 bel lt0) (trodAll_cons_mk (Below.trod laidOut (by kernel_rfl) (of_decide_eq_true (by kernel_rfl)) h1 bel lt1) (trodAll_cons_mk (Below.trod laidOut (by kernel_rfl) (of_decide_eq_true (by kernel_rfl)) h2 bel lt2) (trodAll_cons_mk (Below.trod laidOut (by kernel_rfl) (of_decide_eq_true (by kernel_rfl)) h3 bel lt3) trodAll_mk0)))), rfl, bel.frame _, fun h => by cases h⟩

/-- The statement. -/
theorem fnExactRunBuckets_holds : Rows.FnExactRunBucketsSaid :=
  OpenClaim.holds_of_wide 5 Try.f5 rfl rfl rfl rfl rfl rfl rfl ⟨rfl, rfl, rfl, rfl, rfl⟩ rfl rfl rfl rfl rfl (by kernel_rfl) Try.func5 (by kernel_rfl)
    (of_decide_eq_true (by kernel_rfl)) (by unfold Func.isWrapper; rw [if_neg (of_decide_eq_false (by kernel_rfl))]; exact ⟨rfl, rfl⟩)
    (fun os started H enc _ => lifted os started H enc)
end Go.Proofs.Ytpelmabholoieaa
