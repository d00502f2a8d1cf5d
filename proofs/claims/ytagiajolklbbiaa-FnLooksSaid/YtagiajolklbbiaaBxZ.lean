/- Tools: functions without a body; from a law to its row. -/
import Derived.Test.YtagiajolklbbiaaBxY
import Derived.Test.YtagiajolklbbiaaBxI
namespace Go.Bx
open Go.Ax
open Go.RowKit (Below)

section
variable {F : Nat → Prop} {Tg : AV → Value → Prop} {w : World} {m : Mp} {L : Loc} {P : Program}
/-- A function without a body that the model answers. -/
theorem Does.ext {f : FuncId} {fn : Func} {e : Array Value → Sem Value} {args : List AV} {r : AV} (hf : P.funcs[f]? = some fn) (hb : fn.body = none) (hn : (fn.name == "runtime.NumGoroutine") = false) (h1 : Extern.findNext fn = none) (h2 : Extern.find fn = some e)
    (h : ∀ (F : Nat → Prop) (Tg : AV → Value → Prop) (w : World) (m : Mp) (vs : List Value), VRs F Tg w m L0 args vs → ∃ v d, (e vs.toArray).run P w = .ok v { w with drawn := d } ∧ RV w.heap.size Tg w m r v) (hp : plain r = true ∨ ∃ x, r = .fbits x) : Does P f args r := by
  intro Tg w m cargs hargs
  obtain ⟨v, d, hv, hr⟩ := h _ Tg w m cargs.toList hargs
  simp only [Array.toArray_toList] at hv
  have hcall : (callFunc f cargs).run P w = .ok (.value v) { w with drawn := d } := by
    have hn' : ¬ fn.name = "runtime.NumGoroutine" := by simpa using hn
    simp [callFunc, hf, hn', hb, h1, h2, hv]
  have ho : owns 4 r = [] := by
    rcases hp with hp | ⟨x, rfl⟩
    · cases r <;> simp [plain] at hp <;> rfl
    · rfl
  have hr' : RV w.heap.size Tg { w with drawn := d } m r v := by
    rcases hp with hp | ⟨x, rfl⟩
    · cases r <;> simp [plain] at hp <;> (simp only [RV] at hr ⊢; try exact hr)
    · simp only [RV] at hr ⊢; exact hr
  unfold Invokes
  rw [hcall]
  refine ⟨Below.draw w d, m, hr', fun p q hp' => ?_⟩
  rw [ho] at hp'; cases hp'

/-- From what a law does to its call. -/
theorem law_calls {f : FuncId} {fn : Func} {code : Code} {args : List AV} (h : Does P f args (.bool true)) (hf : P.funcs[f]? = some fn) (hb : fn.body = some code) (hn : (fn.name == "runtime.NumGoroutine") = false)
    (w : World) (m : Mp) (cargs : Array Value) (hargs : VRs (fun b => b < w.heap.size) (fun _ _ => True) w m L0 args cargs.toList) : Calls P f cargs w fun e w' => e = .returned (.bool true) ∧ Below w.heap.size w w' := by
  have := h (fun _ _ => True) w m cargs hargs
  unfold Invokes at this
  have hcall : (callFunc f cargs).run P w = .ok (.enter f cargs) w := by
    have hn' : ¬ fn.name = "runtime.NumGoroutine" := by simpa using hn
    simp [callFunc, hf, hn', hb]
  rw [hcall] at this
  refine this.mono fun e w' ⟨v, he, hB, mr, hv, _⟩ => ⟨?_, hB⟩
  simp only [RV] at hv
  rw [he, hv]
theorem VR.f32 {b : Nat} (h : b < 2 ^ 32) : VR F Tg w m L (.flt .f32 (canon .f32 b)) (.float .f32 b) := by
  simp only [VR]; exact ⟨b, rfl, Fl.canon (k := .f32) h⟩
theorem Does.sqrt {f : FuncId} {fn : Func} {x : Nat} (hf : P.funcs[f]? = some fn) (hb : fn.body = none) (hn : (fn.name == "runtime.NumGoroutine") = false) (h1 : Extern.findNext fn = none) (h2 : Extern.find fn = some Extern.MathSqrt.sqrt) :
    Does P f [.flt .f64 x] (.flt .f64 (fsqrt x)) := by
  refine Does.ext hf hb hn h1 h2 (fun F Tg w m vs hv => ?_) (.inl rfl)
  simp only [VRs, VR] at hv
  obtain ⟨v, vs', rfl, ⟨b, rfl, hbx⟩, rfl⟩ := hv
  have hs := sqrt_canon hbx
  have hE : Extern.MathSqrt.sqrt #[.float .f64 b] = (match FloatKind.f64.format.sqrt b with | some r => pure (Value.float .f64 r) | none => do pure (Value.float .f64 (← choose (.nanBits .f64 b b)))) := rfl
  show ∃ v d, (Extern.MathSqrt.sqrt #[.float .f64 b]).run P w = _ ∧ _
  unfold fsqrt
  rw [← hs, hE]
  cases h : Ieee.double.sqrt b with
  | some r =>
    have h' : FloatKind.f64.format.sqrt b = some r := h
    refine ⟨.float .f64 r, w.drawn, by simp [h'], ?_⟩
    simp only [RV, Option.getD_some]
    unfold Ieee.Format.sqrt at h
    cases hr : (Ieee.double.read b).root (Ieee.double.fractionBits + 2) with
    | none => rw [hr] at h; cases h
    | some d =>
      rw [hr] at h; cases h
      exact ⟨_, rfl, fl_write (k := .f64) (root_notNaN hr)⟩
  | none =>
    have h' : FloatKind.f64.format.sqrt b = none := h
    refine ⟨.float .f64 ((Question.nanBits .f64 b b).cut (w.tape w.drawn (.nanBits .f64 b b))), w.drawn + 1, by simp [h', Question.forced], ?_⟩
    simp only [RV, Option.getD_none]
    exact ⟨_, rfl, nan64 _⟩
end

/-! ### Counting loops -/
/-- 'p' holds of all numbers below. -/
def allN (p : Nat → Bool) : Nat → Bool
  | 0 => true
  | n + 1 => allN p n && p n
theorem allN_iff {p : Nat → Bool} : ∀ {n : Nat}, allN p n = true ↔ ∀ i, i < n → p i = true
  | 0 => by simp [allN]
  | n + 1 => by
    simp only [allN, Bool.and_eq_true, allN_iff (n := n)]
    constructor
    · intro ⟨h1, h2⟩ i hi
      by_cases e : i = n
      · subst e; exact h2
      · exact h1 i (by omega)
    · intro h; exact ⟨fun i hi => h i (by omega), h n (by omega)⟩
theorem allN_false {p : Nat → Bool} {n i : Nat} (hi : i < n) (h : p i = false) : allN p n = false := by
  cases hn : allN p n with
  | false => rfl
  | true => rw [allN_iff.1 hn i hi] at h; cases h
theorem allN_congr {p q : Nat → Bool} {n : Nat} (h : ∀ i, i < n → p i = q i) : allN p n = allN q n := by
  rw [Bool.eq_iff_iff, allN_iff, allN_iff]
  exact ⟨fun hp i hi => by rw [← h i hi]; exact hp i hi, fun hq i hi => by rw [h i hi]; exact hq i hi⟩
/-- A list, cell by cell. -/
def tabN {α : Type} (f : Nat → α) : Nat → List α
  | 0 => []
  | n + 1 => tabN f n ++ [f n]
@[simp] theorem tabN_length {α : Type} (f : Nat → α) : ∀ n, (tabN f n).length = n
  | 0 => rfl
  | n + 1 => by simp [tabN, tabN_length f n]
theorem tabN_get {α : Type} (f : Nat → α) : ∀ (n i : Nat), i < n → (tabN f n)[i]? = some (f i)
  | 0, _, h => by omega
  | n + 1, i, h => by
    rw [tabN]
    by_cases e : i = n
    · subst e; rw [List.getElem?_append_right (by simp)]; simp
    · rw [List.getElem?_append_left (by simp; omega)]; exact tabN_get f n i (by omega)
theorem tabN_getD {α : Type} (f : Nat → α) {n i : Nat} (h : i < n) (d : α) : (tabN f n).getD i d = f i := by
  rw [List.getD_eq_getElem?_getD, tabN_get f n i h]; rfl
theorem tabN_self {α : Type} (xs : List α) (d : α) : tabN (fun i => xs.getD i d) xs.length = xs := by
  refine List.ext_getElem? fun i => ?_
  by_cases h : i < xs.length
  · rw [tabN_get _ _ _ h, List.getD_eq_getElem?_getD, List.getElem?_eq_getElem h]; rfl
  · rw [List.getElem?_eq_none (by simpa using h), List.getElem?_eq_none (by omega)]
theorem tabN_congr {α : Type} {f g : Nat → α} : ∀ {n : Nat}, (∀ i, i < n → f i = g i) → tabN f n = tabN g n
  | 0, _ => rfl
  | n + 1, h => by rw [tabN, tabN, tabN_congr fun i hi => h i (by omega), h n (by omega)]
/-- A list that is written from its head on. -/
def wrN {α : Type} (xs : List α) (f : Nat → α) : Nat → List α
  | 0 => xs
  | n + 1 => (wrN xs f n).set n (f n)
@[simp] theorem wrN_length {α : Type} (xs : List α) (f : Nat → α) : ∀ n, (wrN xs f n).length = xs.length
  | 0 => rfl
  | n + 1 => by simp [wrN, wrN_length xs f n]
theorem wrN_get {α : Type} (xs : List α) (f : Nat → α) : ∀ (n i : Nat), n ≤ xs.length → (wrN xs f n)[i]? = if i < n then some (f i) else xs[i]?
  | 0, i, _ => by simp [wrN]
  | n + 1, i, h => by
    rw [wrN]
    by_cases e : n = i
    · subst e; rw [List.getElem?_set_self (by simp; omega), if_pos (by omega)]
    · rw [List.getElem?_set_ne e, wrN_get xs f n i (by omega)]
      by_cases h2 : i < n
      · rw [if_pos h2, if_pos (by omega)]
      · rw [if_neg h2, if_neg (by omega)]
theorem wrN_all {α : Type} (xs : List α) (f : Nat → α) : wrN xs f xs.length = tabN f xs.length := by
  refine List.ext_getElem? fun i => ?_
  rw [wrN_get xs f _ i (Nat.le_refl _)]
  by_cases h : i < xs.length
  · rw [if_pos h, tabN_get f _ _ h]
  · rw [if_neg h, List.getElem?_eq_none (by omega), List.getElem?_eq_none (by simpa using h)]
end Go.Bx
