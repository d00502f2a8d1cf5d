/- The abstract operations, third part: arithmetic, comparisons, conversions, composites. -/
import Derived.Test.YtkjdcbgliekjnaaAxQ
namespace Go.Ax
open Go.RowKit (Below)

/-! ### Floats -/
theorem isNaN_rung (k : FloatKind) (b : Nat) : isNaN k b = decide (k.format.infRung < b % k.format.signWeight) := by
  unfold isNaN Ieee.Format.read
  have h1 : k.format.binade ≤ k.format.infRung := by cases k <;> decide +kernel
  dsimp only
  generalize b % k.format.signWeight = r
  by_cases h2 : r < k.format.binade
  · rw [if_pos h2]; simp [Ieee.Datum.isNaN]; omega
  · rw [if_neg h2]
    by_cases h3 : r < k.format.infRung
    · rw [if_pos h3]; simp [Ieee.Datum.isNaN]; omega
    · rw [if_neg h3]
      by_cases h4 : r = k.format.infRung
      · rw [if_pos h4]; simp [Ieee.Datum.isNaN]; omega
      · rw [if_neg h4]; simp [Ieee.Datum.isNaN]; omega
def signBit : FloatKind → Nat
  | .f32 => 2 ^ 31
  | .f64 => 2 ^ 63
theorem signWeight_eq (k : FloatKind) : k.format.signWeight = signBit k := by cases k <;> decide +kernel
theorem width_eq (k : FloatKind) : 2 ^ k.format.width = 2 * signBit k := by cases k <;> decide +kernel
/-- '-x'. -/
def fneg (k : FloatKind) (x : Nat) : Nat := if isNaN k x then qnan k else Op.negFloat k x
theorem negFloat_mod (k : FloatKind) (b : Nat) : Op.negFloat k b % k.format.signWeight = b % k.format.signWeight := by
  have e : ∃ n, k.format.signWeight = 2 ^ n ∧ Op.negFloat k b = b ^^^ 2 ^ n := by
    cases k
    · exact ⟨31, by decide +kernel, rfl⟩
    · exact ⟨63, by decide +kernel, rfl⟩
  obtain ⟨n, e1, e2⟩ := e
  rw [e1, e2, Nat.xor_mod_two_pow, Nat.mod_self, Nat.xor_zero]
theorem negFloat_lt (k : FloatKind) {b : Nat} (h : b < 2 ^ k.format.width) : Op.negFloat k b < 2 ^ k.format.width := by
  cases k
  · exact Nat.xor_lt_two_pow (n := 32) h (by decide +kernel)
  · exact Nat.xor_lt_two_pow (n := 64) h (by decide +kernel)
theorem fneg_sound {k : FloatKind} {b x : Nat} (h : Fl k b x) : Fl k (Op.negFloat k b) (fneg k x) := by
  refine ⟨negFloat_lt k h.1, ?_⟩
  have hn : isNaN k (Op.negFloat k b) = isNaN k b := by rw [isNaN_rung, isNaN_rung, negFloat_mod]
  unfold canon fneg
  rw [hn, h.nan]
  cases hb : isNaN k b with
  | true => rfl
  | false => have e := h.eq hb; subst e; rfl
/-- The absolute value, by the bits. -/
def fabs64 (x : Nat) : Nat := if isNaN .f64 x then qnan .f64 else x % 2 ^ 63
theorem andNot_sign {b : Nat} (h : b < 2 ^ 64) : (BitVec.ofInt 64 (b : Int) &&& ~~~ BitVec.ofInt 64 9223372036854775808).toNat = b % 2 ^ 63 := by
  have e1 : BitVec.ofInt 64 (b : Int) = BitVec.ofNat 64 b := by simp
  have e2 : (~~~ BitVec.ofInt 64 9223372036854775808) = BitVec.ofNat 64 (2 ^ 63 - 1) := by decide +kernel
  rw [e1, e2, BitVec.toNat_and, BitVec.toNat_ofNat, BitVec.toNat_ofNat, Nat.mod_eq_of_lt h]
  rw [Nat.mod_eq_of_lt (show 2 ^ 63 - 1 < 2 ^ 64 by decide)]
  exact Nat.and_two_pow_sub_one_eq_mod b 63
theorem fabs64_sound {b x : Nat} (h : Fl .f64 b x) : Fl .f64 (b % 2 ^ 63) (fabs64 x) := by
  have hw : b < 2 ^ 64 := h.1
  refine ⟨show _ < 2 ^ 64 by omega, ?_⟩
  have hn : isNaN .f64 (b % 2 ^ 63) = isNaN .f64 b := by
    rw [isNaN_rung, isNaN_rung, signWeight_eq]
    show decide (_ < b % 2 ^ 63 % 2 ^ 63) = decide (_ < b % 2 ^ 63)
    rw [Nat.mod_mod]
  unfold canon fabs64
  rw [hn, h.nan]
  cases hb : isNaN .f64 b with
  | true => rfl
  | false => have e := h.eq hb; subst e; rfl
def fcmp (op : BinOp) (k : FloatKind) (x y : Nat) : Bool :=
  match op with
  | .eql => k.format.order x y == some .eq
  | .neq => k.format.order x y != some .eq
  | .lss => k.format.order x y == some .lt
  | .leq => k.format.order x y == some .lt || k.format.order x y == some .eq
  | .gtr => k.format.order x y == some .gt
  | .geq => k.format.order x y == some .gt || k.format.order x y == some .eq
  | _ => false
def isCmp : BinOp → Bool
  | .eql | .neq | .lss | .leq | .gtr | .geq => true
  | _ => false
def isArith : BinOp → Bool
  | .add | .sub | .mul | .quo => true
  | _ => false

section
variable {B B0 N : Nat} {Tg Tg' : AV → Value → Prop} {w0 w w' : World} {m m' mr : Mp} {L L' : Loc} {fr : Fr} {a : Act} {P : Program}

theorem run_fcmp {op : BinOp} (hop : isCmp op = true) (t : TypeId) {k : FloatKind} {a b x y : Nat} (ha : Fl k a x) (hb : Fl k b y) :
    (binOp op t (.float k a) (.float k b)).run P w = .ok (.bool (fcmp op k x y)) w := by
  have := order_canon ha hb
  cases op <;> simp [isCmp] at hop <;> simp [binOp, Op.floatCmp, fcmp, this]

/-- Whole numbers. -/
def intA (op : BinOp) (k : IntKind) (x y : Int) : Option AV :=
  match op with
  | .add => some (.int k (k.wrap (x + y)))
  | .sub => some (.int k (k.wrap (x - y)))
  | .mul => some (.int k (k.wrap (x * y)))
  | .quo => if y = 0 then none else some (.int k (k.wrap (x.tdiv y)))
  | .rem => if y = 0 then none else some (.int k (x.tmod y))
  | .eql => some (.bool (x == y))
  | .neq => some (.bool (x != y))
  | .lss => some (.bool (decide (x < y)))
  | .leq => some (.bool (decide (x ≤ y)))
  | .gtr => some (.bool (decide (x > y)))
  | .geq => some (.bool (decide (x ≥ y)))
  | .and => some (.int k (k.wrap (BitVec.ofInt k.bits x &&& BitVec.ofInt k.bits y).toNat))
  | .or => some (.int k (k.wrap (BitVec.ofInt k.bits x ||| BitVec.ofInt k.bits y).toNat))
  | .xor => some (.int k (k.wrap (BitVec.ofInt k.bits x ^^^ BitVec.ofInt k.bits y).toNat))
  | .andNot => some (.int k (k.wrap (BitVec.ofInt k.bits x &&& ~~~BitVec.ofInt k.bits y).toNat))
  | .shl | .shr => none
def shiftA (op : BinOp) (k : IntKind) (x y : Int) : Option AV :=
  if y < 0 then none else
  match op with
  | .shl => some (.int k (k.wrap (x * 2 ^ (min y.toNat k.bits))))
  | .shr => some (.int k (x.fdiv (2 ^ (min y.toNat k.bits))))
  | _ => none
def binA (P : Program) (op : BinOp) (T : TypeId) (x y : AV) : Option AV :=
  match x, y with
  | .int k a, .int k' b => if op = .shl ∨ op = .shr then shiftA op k a b else if k = k' then intA op k a b else none
  | .flt k a, .flt k' b => if k = k' then (if isArith op then some (.flt k (fop op k a b)) else if isCmp op then some (.bool (fcmp op k a b)) else none) else none
  | .fbits a, .int k n => if k = .u64 ∧ n = 9223372036854775808 ∧ op = .andNot then some (.fbits (fabs64 a)) else
      if isNaN .f64 a = false ∧ k = .u64 ∧ op ≠ .shl ∧ op ≠ .shr then intA op .u64 a n else none
  | .bool a, .bool b => match P.underlying T with
    | some .bool => (match op with | .eql => some (.bool (a == b)) | .neq => some (.bool (a != b)) | _ => none)
    | _ => none
  | .cpx k a b, .cpx k' c d => if k = k' then (match op with
    | .add | .sub => some (.cpx k (fop op k a c) (fop op k b d))
    | .eql => some (.bool (fcmp .eql k a c && fcmp .eql k b d))
    | .neq => some (.bool !(fcmp .eql k a c && fcmp .eql k b d))
    | _ => none) else none
  | _, _ => none

theorem run_intA {op : BinOp} {k : IntKind} {x y : Int} {r : AV} (t : TypeId) (h : intA op k x y = some r) : ∃ v, (binOp op t (.int k x) (.int k y)).run P w = .ok v w ∧ VR B Tg w m L r v := by
  cases op <;> simp only [intA] at h <;> first
    | (cases h; done)
    | (cases h; exact ⟨_, by simp [binOp, Op.intArith, Op.intBits, Op.intCmp]; rfl, by simp [VR]⟩)
    | (split at h
       · cases h
       · rename_i hy; cases h; exact ⟨_, by simp [binOp, Op.intDiv, hy]; rfl, by simp [VR]⟩)
theorem run_shiftA {op : BinOp} {k k' : IntKind} {x y : Int} {r : AV} (t : TypeId) (hop : op = .shl ∨ op = .shr) (h : shiftA op k x y = some r) : ∃ v, (binOp op t (.int k x) (.int k' y)).run P w = .ok v w ∧ VR B Tg w m L r v := by
  unfold shiftA at h
  split at h
  · cases h
  · rename_i hy
    rcases hop with rfl | rfl <;> simp only at h <;> cases h
    · exact ⟨_, by simp [binOp, Op.shift, hy]; rfl, by simp [VR]⟩
    · exact ⟨_, by simp [binOp, Op.shift, hy]; rfl, by simp [VR]⟩

theorem Below.draw (w : World) (d : Nat) : Below w.heap.size w { w with drawn := d } := ⟨rfl, rfl, rfl, Nat.le_refl _, fun _ _ => rfl⟩

theorem run_carith' {op : BinOp} (hop : op = .add ∨ op = .sub ∨ op = .mul ∨ op = .quo) {k : FloatKind} {a b x y : Nat} (ha : Fl k a x) (hb : Fl k b y) :
    ∃ r d, (Op.Complex.arith op k a b).run P w = .ok r { w with drawn := d } ∧ Fl k r (fop op k x y) := by
  obtain ⟨r, d, h1, h2⟩ := run_fop (P := P) w hop 0 ha hb
  refine ⟨r, d, ?_, h2⟩
  have h3 : (Op.floatArith op k a b).run P w = .ok (.float k r) { w with drawn := d } := by
    rcases hop with rfl | rfl | rfl | rfl <;> simpa [binOp] using h1
  simp [Op.Complex.arith, h3]

theorem run_equalIn_bool {T : TypeId} (hT : P.underlying T = some .bool) (d : Nat) (x y : Bool) : (Op.equalIn (d + 1) T (.bool x) (.bool y)).run P w = .ok (x == y) w := by
  simp [Op.equalIn, run_underlying hT]
theorem run_equal_bool {T : TypeId} (hT : P.underlying T = some .bool) (x y : Bool) : (Op.equal T (.bool x) (.bool y)).run P w = .ok (x == y) w := run_equalIn_bool hT 9999 x y
theorem binA_sound {op : BinOp} {T : TypeId} {x y r : AV} {u v : Value} (hx : VR B Tg w m L x u) (hy : VR B Tg w m L y v) (h : binA P op T x y = some r) :
    ∃ d z, (binOp op T u v).run P w = .ok z { w with drawn := d } ∧ VR B Tg w m L r z := by
  unfold binA at h
  split at h
  · simp only [VR] at hx hy; subst hx; subst hy
    split at h
    · rename_i hop
      obtain ⟨z, h1, h2⟩ := run_shiftA (P := P) (w := w) T hop h
      exact ⟨w.drawn, z, h1, h2⟩
    · split at h
      · rename_i hk; subst hk
        obtain ⟨z, h1, h2⟩ := run_intA (P := P) (w := w) T h
        exact ⟨w.drawn, z, h1, h2⟩
      · cases h
  · simp only [VR] at hx hy
    obtain ⟨b, rfl, hb⟩ := hx
    obtain ⟨c, rfl, hc⟩ := hy
    split at h
    · rename_i hk; subst hk
      split at h
      · rename_i ha
        cases h
        obtain ⟨z, d, h1, h2⟩ := run_fop (P := P) w (op := op) (by cases op <;> simp [isArith] at ha <;> simp) T hb hc
        exact ⟨d, _, h1, by simp only [VR]; exact ⟨z, rfl, h2⟩⟩
      · split at h
        · rename_i hcm
          cases h
          exact ⟨w.drawn, _, run_fcmp hcm T hb hc, by simp [VR]⟩
        · cases h
    · cases h
  · simp only [VR] at hx hy
    obtain ⟨b, rfl, hb⟩ := hx
    subst hy
    split at h
    · rename_i hk
      obtain ⟨rfl, rfl, rfl⟩ := hk
      cases h
      refine ⟨w.drawn, .int .u64 ((b % 2 ^ 63 : Nat) : Int), ?_, by simp only [VR]; exact ⟨_, rfl, fabs64_sound hb⟩⟩
      have hb64 : b < 2 ^ 64 := hb.1
      have := andNot_sign hb64
      have hw : IntKind.u64.wrap ((b % 2 ^ 63 : Nat) : Int) = ((b % 2 ^ 63 : Nat) : Int) := IntWalk.u64_in _ (by omega)
      refine (congrArg (fun n : Nat => (Result.ok (Value.int .u64 (IntKind.u64.wrap (n : Int))) w : Result Value)) this).trans ?_
      simp only [hw]
    · split at h
      · rename_i hk
        obtain ⟨hn, rfl, hs1, hs2⟩ := hk
        rw [hb.nan] at hn
        have := hb.eq hn
        subst this
        obtain ⟨z, h1, h2⟩ := run_intA (P := P) (w := w) T h
        exact ⟨w.drawn, z, h1, h2⟩
      · cases h
  · simp only [VR] at hx hy; subst hx; subst hy
    split at h
    · rename_i hT
      split at h
      · cases h
        exact ⟨w.drawn, .bool _, by simp [binOp, run_equal_bool hT]; rfl, by simp [VR]⟩
      · cases h
        exact ⟨w.drawn, .bool (_ != _), by simp only [binOp, Sem.run_bind, run_equal_bool hT, Result.andThen_ok, Sem.run_pure]; rfl, by simp [VR]⟩
      · cases h
    · cases h
  · rename_i k a1 b1 k' c1 d1
    simp only [VR] at hx hy
    obtain ⟨a', b', rfl, ha, hb⟩ := hx
    obtain ⟨c', d', rfl, hc, hd⟩ := hy
    have hcmp : ∀ {p q p' q' : Nat}, Fl k p p' → Fl k q q' → (Op.Complex.cmp .eql k p q).run P w = .ok (fcmp .eql k p' q') w := fun {p q p' q'} hp hq => by
      have := order_canon hp hq
      simp [Op.Complex.cmp, Op.floatCmp, fcmp, asBool, this]
    split at h
    · rename_i hk; subst hk
      split at h
      · cases h
        obtain ⟨r1, d1', h1, h2⟩ := run_carith' (P := P) (w := w) (op := .add) (by simp) ha hc
        obtain ⟨r2, d2', h3, h4⟩ := run_carith' (P := P) (w := { w with drawn := d1' }) (op := .add) (by simp) hb hd
        refine ⟨d2', .complex k r1 r2, ?_, by simp only [VR]; exact ⟨r1, r2, rfl, h2, h4⟩⟩
        simp [binOp, Op.complexOp, h1, h3]
      · cases h
        obtain ⟨r1, d1', h1, h2⟩ := run_carith' (P := P) (w := w) (op := .sub) (by simp) ha hc
        obtain ⟨r2, d2', h3, h4⟩ := run_carith' (P := P) (w := { w with drawn := d1' }) (op := .sub) (by simp) hb hd
        refine ⟨d2', .complex k r1 r2, ?_, by simp only [VR]; exact ⟨r1, r2, rfl, h2, h4⟩⟩
        simp [binOp, Op.complexOp, h1, h3]
      · cases h
        exact ⟨w.drawn, .bool _, by simp [binOp, Op.complexOp, hcmp ha hc, hcmp hb hd]; rfl, by simp [VR]⟩
      · cases h
        exact ⟨w.drawn, .bool _, by simp [binOp, Op.complexOp, hcmp ha hc, hcmp hb hd]; rfl, by simp [VR]⟩
      · cases h
    · cases h
  · cases h

def unA (op : UnOp) (x : AV) : Option AV :=
  match op, x with
  | .not, .bool b => some (.bool !b)
  | .neg, .int k n => some (.int k (k.wrap (0 - n)))
  | .neg, .flt k x => some (.flt k (fneg k x))
  | .neg, .cpx k x y => some (.cpx k (fneg k x) (fneg k y))
  | _, _ => none
theorem unA_sound {op : UnOp} {x r : AV} {u : Value} (hx : VR B Tg w m L x u) (h : unA op x = some r) : ∃ z, (Op.unary op u).run P w = .ok z w ∧ VR B Tg w m L r z := by
  unfold unA at h
  split at h
  · cases h; simp only [VR] at hx; subst hx; exact ⟨_, rfl, by simp [VR]⟩
  · cases h; simp only [VR] at hx; subst hx; exact ⟨_, rfl, by simp [VR]⟩
  · cases h; simp only [VR] at hx; obtain ⟨b, rfl, hb⟩ := hx
    exact ⟨_, rfl, by simp only [VR]; exact ⟨_, rfl, fneg_sound hb⟩⟩
  · cases h; simp only [VR] at hx; obtain ⟨b, c, rfl, hb, hc⟩ := hx
    exact ⟨_, rfl, by simp only [VR]; exact ⟨_, _, rfl, fneg_sound hb, fneg_sound hc⟩⟩
  · cases h
end
end Go.Ax
