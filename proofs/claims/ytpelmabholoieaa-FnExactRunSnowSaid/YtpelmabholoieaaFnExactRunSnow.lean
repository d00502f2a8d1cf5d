/- FnExactRunSnow: for every input the call returns true, and each argument reads afterwards as it read before. No condition. -/
import Derived.Test.YtpelmabholoieaaRows
import Derived.Test.YtpelmabholoieaaRsn
import Derived.Test.YtpelmabholoieaaBxB
import Derived.ProofKit
import Derived.Carry
import Derived.OpenShut
import Derived.ShutString
import Derived.ChangeOld
import Derived.Below
namespace Go.Proofs.Ytpelmabholoieaa
open Go.ChangeShapes Go.WideShapes Go.ChangeAt Go.RowKit
open Go.Ax (canon canon_lt)
theorem own : ownKnob Try.prog.godebug = none := by kernel_rfl
theorem laidOut : laidOutB Try.prog = true := by kernel_rfl
set_option maxRecDepth 100000 in
theorem walk (w : World) (c0_0 c0_1 c0_2 c0_3 : Nat) (l0 : ∀ b ∈ [c0_0, c0_1, c0_2, c0_3], b < 2 ^ 32) (ys1 : List Nat) (v1 : Value) (n1 : ys1.length < 2 ^ 63) (l1 : ∀ y ∈ ys1, y < 2 ^ 32) (vr1 : ∀ Tg m L, Bx.VR (fun b => b < w.heap.size) Tg w m L (.sli .f32 ys1 .undef) v1) (ys2 : List Nat) (v2 : Value) (n2 : ys2.length < 2 ^ 63) (l2 : ∀ y ∈ ys2, y < 2 ^ 32) (vr2 : ∀ Tg m L, Bx.VR (fun b => b < w.heap.size) Tg w m L (.sli .f32 ys2 .undef) v2) (b3 : Nat) (l3 : b3 < 2 ^ 32) : Calls Try.prog 3 #[.agg (([c0_0, c0_1, c0_2, c0_3] : List Nat).map (.float .f32)).toArray, v1, v2, .float .f32 b3] w fun e w' => e = .returned (.bool true) ∧ Below w.heap.size w w' := by
  refine Bx.law_calls (lawRunSnow (canon .f32 c0_0) (canon_lt (l0 c0_0 (by simp))) (canon .f32 c0_1) (canon_lt (l0 c0_1 (by simp))) (canon .f32 c0_2) (canon_lt (l0 c0_2 (by simp))) (canon .f32 c0_3) (canon_lt (l0 c0_3 (by simp))) ys1 n1 l1 ys2 n2 l2 (canon .f32 b3) (canon_lt l3)) Try.func3 rfl (by kernel_rfl) w (fun _ => (0, 0)) _ ?_
  simp only [Bx.VRs]
  exact ⟨_, _, rfl, Bx.VR.aggf (bs := [c0_0, c0_1, c0_2, c0_3]) l0, ⟨_, _, rfl, vr1 _ _ _, ⟨_, _, rfl, vr2 _ _ _, ⟨_, _, rfl, Bx.VR.f32 l3, rfl⟩⟩⟩⟩
set_option maxRecDepth 100000 in
theorem lifted (os : Os) (started : os.Started) (H : Type) (enc : TypeId × Value → H) :
    ReturnsInHanded {} Try.checked os 3 .any (Rows.fnExactRunSnowSpec.pre6 enc Try.prog Try.f3 Rows.fnExactRunSnowRow.domain false) (Rows.fnExactRunSnowSpec.post enc Try.prog Try.f3 false true false false) := by
  refine returnsInHanded_of_change (C := Try.checked) own started (by kernel_rfl) Try.func3
    (ChangeSpec.witness6 (enc := enc) (C := Try.checked) false ⟨#[], #[.agg #[.float .f32 0, .float .f32 0, .float .f32 0, .float .f32 0], .slice none 0 0, .slice none 0 0, .float .f32 0], []⟩ 8 (by kernel_rfl) (by kernel_rfl) (by kernel_rfl) (by kernel_rfl)) ?_
  intro W base args ds gs before hval0 hW hcnd _
  have hval : ∀ (j : Nat) t v, Try.f3.params[j]? = some t → args[j]? = some v → Value.okWide Try.prog W .any base t v := hval0
  have hW' := hW
  obtain ⟨p, q, hA0, hV, rfl, hfz, hnd⟩ := hW
  have hA : DataW.TrodAll enc Try.prog W 0 (fun _ => true) true Try.f3.params.toList args.toList ds p := hA0
  rw [Try.params3] at hA hval
  obtain ⟨v0, vs0, d0, ds0, p0, q0, hargs, rfl, rfl, h0, r0⟩ := trodAll_cons hA
  obtain ⟨v1, vs1, d1, ds1, p1, q1, rfl, rfl, rfl, h1, r1⟩ := trodAll_cons r0
  obtain ⟨v2, vs2, d2, ds2, p2, q2, rfl, rfl, rfl, h2, r2⟩ := trodAll_cons r1
  obtain ⟨v3, vs3, d3, ds3, p3, q3, rfl, rfl, rfl, h3, r3⟩ := trodAll_cons r2
  obtain ⟨rfl, rfl, rfl⟩ := trodAll_nil r3
  obtain rfl : args = #[v0, v1, v2, v3] := by cases args; simp_all
  obtain ⟨rfl, rfl⟩ := trodVars_none hV
  have lt0 : ∀ x ∈ p0, x.block < W.heap.size := by obtain ⟨m, hm⟩ := h0; exact DataW.trod_lt m _ _ _ hm
  have lt1 : ∀ x ∈ p1, x.block < W.heap.size := by obtain ⟨m, hm⟩ := h1; exact DataW.trod_lt m _ _ _ hm
  have lt2 : ∀ x ∈ p2, x.block < W.heap.size := by obtain ⟨m, hm⟩ := h2; exact DataW.trod_lt m _ _ _ hm
  have lt3 : ∀ x ∈ p3, x.block < W.heap.size := by obtain ⟨m, hm⟩ := h3; exact DataW.trod_lt m _ _ _ hm
  obtain ⟨bs0, rfl, n0, l0⟩ := Bx.okWide_aggf (n := 4) (T := 22) Try.underlying24 (by kernel_rfl) Try.underlying22 (by kernel_rfl) (hval 0 24 v0 rfl rfl)
  obtain ⟨c0_0, c0_1, c0_2, c0_3, rfl⟩ := Bx.list4 n0
  obtain ⟨ys1, n1, l1, vr1⟩ := Bx.slice_trod (r := .f32) Try.underlying25 (by kernel_rfl) (fun _ _ _ h hl => Bx.row_f32 Try.underlying22 h hl) (hval 1 25 v1 rfl rfl) h1.choose_spec
  obtain ⟨ys2, n2, l2, vr2⟩ := Bx.slice_trod (r := .f32) Try.underlying25 (by kernel_rfl) (fun _ _ _ h hl => Bx.row_f32 Try.underlying22 h hl) (hval 2 25 v2 rfl rfl) h2.choose_spec
  obtain ⟨b3, rfl, l3⟩ := Bx.okWide_f32 Try.underlying22 (hval 3 22 v3 rfl rfl)
  refine (walk W c0_0 c0_1 c0_2 c0_3 l0 ys1 v1 n1 l1 vr1 ys2 v2 n2 l2 vr2 b3 l3).mono fun e W' ⟨he, bel⟩ => ?_
  subst he
  exact ⟨_, rfl, _, _, _, [], _, [], hW', trodAll_mk1 (shut_bool Try.underlying4 _), (trodAll_cons_mk (Below.trod laidOut (by kernel_rfl) (of_decide_eq_true (by kernel_rfl)) h0 bel lt0) (trodAll_cons_mk (Below.trod laidOut (by kernel_rfl) (of_decide_eq_true (by kernel_rfl)) h1 bel lt1) (trodAll_cons_mk (Below.trod laidOut (by kernel_rfl) (of_decide_eq_true (by kernel_rfl)) h2 bel lt2) (trodAll_cons_mk (Below.trod laidOut (by kernel_rfl) (of_decide_eq_true (by kernel_rfl)) h3 bel lt3) trodAll_mk0)))), rfl, bel.frame _, fun h => by cases h⟩

/-- The statement. -/
theorem fnExactRunSnow_holds : Rows.FnExactRunSnowSaid :=
  OpenClaim.holds_of_wide 3 Try.f3 rfl rfl rfl rfl rfl rfl rfl ⟨rfl, rfl, rfl, rfl, rfl⟩ rfl rfl rfl rfl rfl (by kernel_rfl) Try.func3 (by kernel_rfl)
    (of_decide_eq_true (by kernel_rfl)) (by unfold Func.isWrapper; rw [if_neg (of_decide_eq_false (by kernel_rfl))]; exact ⟨rfl, rfl⟩)
    (fun os started H enc _ => lifted os started H enc)
end Go.Proofs.Ytpelmabholoieaa
