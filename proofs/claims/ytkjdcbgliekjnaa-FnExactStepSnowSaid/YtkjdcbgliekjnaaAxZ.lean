/- Tools for the texts of a seat: loops; functions without a body; from a law to its row. -/
import Derived.Test.YtkjdcbgliekjnaaAxY
import Derived.Test.YtkjdcbgliekjnaaAxH
namespace Go.Ax
open Go.RowKit (Below)

def KN : List (Nat × AV) → Fr → Prop
  | [], _ => True
  | (k, v) :: l, fr => fr k = v ∧ KN l fr
def kn : List (Nat × AV) → Fr → Fr
  | [], fr => fr
  | (k, v) :: l, fr => upd (kn l fr) k v
theorem kn_eq : ∀ (l : List (Nat × AV)) (fr : Fr), KN l fr → kn l fr = fr
  | [], _, _ => rfl
  | (k, v) :: l, fr, ⟨h1, h2⟩ => by rw [kn, kn_eq l fr h2, ← h1, upd_self]
/-- How far a counter has still to go. -/
def mu (k : Nat) (n : Nat) (fr : Fr) (_ : Loc) : Nat := match fr k with
  | .int _ i => n - i.toNat
  | _ => 0
theorem i64_next {i : Nat} (h : i < 2 ^ 40) : IntKind.i64.wrap ((i : Int) + 1) = ((i + 1 : Nat) : Int) := by rw [IntKind.wrap_i64]; omega

theorem tup2 {a b c d : AV} (h1 : a = c) (h2 : b = d) : AV.tup [a, b] = AV.tup [c, d] := by rw [h1, h2]
/-- Single floats. -/
def f32s (xs : List Nat) : List AV := xs.map (.flt .f32)
def flts : List AV → Option (List Nat)
  | [] => some []
  | .flt .f32 x :: cs => match flts cs with
    | some xs => some (x :: xs)
    | none => none
  | _ => none
theorem flts_eq : ∀ {cs : List AV} {xs : List Nat}, flts cs = some xs → cs = f32s xs
  | [], xs, h => by cases h; rfl
  | c :: cs, xs, h => by
    unfold flts at h
    split at h
    · rename_i heq; cases heq
    · rename_i heq
      cases heq
      split at h
      · rename_i ys hys; cases h; rw [flts_eq hys]; rfl
      · cases h
    · cases h
theorem flts_f32s : ∀ xs : List Nat, flts (f32s xs) = some xs
  | [] => rfl
  | x :: xs => by
    show (match flts (f32s xs) with | some ys => some (x :: ys) | none => none) = _
    rw [flts_f32s xs]
theorem drop_f32s {xs ys : List Nat} {i : Nat} (h : xs.drop i = ys) : (f32s xs).drop (Int.toNat (i : Int) * 1) = f32s ys := by
  simp [f32s, ← List.map_drop, h]

section
variable {B : Nat} {Tg : AV → Value → Prop} {w : World} {m : Mp} {L : Loc} {P : Program}
/-- A function without a body that the model answers. -/
theorem Does.ext {f : FuncId} {fn : Func} {e : Array Value → Sem Value} {args : List AV} {r : AV} (hf : P.funcs[f]? = some fn) (hb : fn.body = none) (hn : (fn.name == "runtime.NumGoroutine") = false) (h1 : Extern.findNext fn = none) (h2 : Extern.find fn = some e)
    (h : ∀ (Tg : AV → Value → Prop) (w : World) (m : Mp) (vs : List Value), VRs w.heap.size Tg w m L0 args vs → ∃ v, (e vs.toArray).run P w = .ok v w ∧ RV w.heap.size Tg w m r v) (ho : owns 4 r = []) : Does P f args r := by
  intro Tg w m cargs hargs
  obtain ⟨v, hv, hr⟩ := h Tg w m cargs.toList hargs
  simp only [Array.toArray_toList] at hv
  have hcall : (callFunc f cargs).run P w = .ok (.value v) w := by
    have hn' : ¬ fn.name = "runtime.NumGoroutine" := by simpa using hn
    simp [callFunc, hf, hn', hb, h1, h2, hv]
  unfold Invokes
  rw [hcall]
  refine ⟨Below.refl _ _, m, hr, fun i j hi => ?_⟩
  rw [ho] at hi; cases hi

/-- From what a law does to its call. -/
theorem law_calls {f : FuncId} {fn : Func} {code : Code} {args : List AV} (h : Does P f args (.bool true)) (hf : P.funcs[f]? = some fn) (hb : fn.body = some code) (hn : (fn.name == "runtime.NumGoroutine") = false)
    (w : World) (m : Mp) (cargs : Array Value) (hargs : VRs w.heap.size (fun _ _ => True) w m L0 args cargs.toList) : Calls P f cargs w fun e w' => e = .returned (.bool true) ∧ Below w.heap.size w w' := by
  have := h (fun _ _ => True) w m cargs hargs
  unfold Invokes at this
  have hcall : (callFunc f cargs).run P w = .ok (.enter f cargs) w := by
    have hn' : ¬ fn.name = "runtime.NumGoroutine" := by simpa using hn
    simp [callFunc, hf, hn', hb]
  rw [hcall] at this
  refine this.mono fun e w' ⟨v, he, hB, mr, hv, _⟩ => ⟨?_, hB⟩
  simp only [RV] at hv
  rw [he, hv]
theorem VR.f32 {b : Nat} (h : b < 2 ^ 32) : VR B Tg w m L (.flt .f32 (canon .f32 b)) (.float .f32 b) := by
  simp only [VR]; exact ⟨b, rfl, Fl.canon (k := .f32) h⟩
theorem canon_lt {b : Nat} (h : b < 2 ^ 32) : canon .f32 b < 2 ^ 32 := (Fl.canon (k := .f32) h).lt
end
end Go.Ax
