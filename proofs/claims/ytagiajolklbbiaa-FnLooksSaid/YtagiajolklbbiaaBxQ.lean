/- Arithmetic, comparisons, conversions, composites: the abstract operations, and that the model's do the same. -/
import Derived.Test.YtagiajolklbbiaaBxP
namespace Go.Bx
open Go.Ax
open Go.RowKit (Below)

def inI64 (n : Int) : Prop := -9223372036854775808 ≤ n ∧ n ≤ 9223372036854775807
/-- Whole numbers of 64 bits, where nothing overflows. -/
def i64K (op : BinOp) (x y : Int) (K : AV → Prop) : Prop :=
  match op with
  | .add => (-9223372036854775808 ≤ x + y ∧ x + y ≤ 9223372036854775807) ∧ K (.int .i64 (x + y))
  | .sub => (-9223372036854775808 ≤ x - y ∧ x - y ≤ 9223372036854775807) ∧ K (.int .i64 (x - y))
  | .mul => (-9223372036854775808 ≤ x * y ∧ x * y ≤ 9223372036854775807) ∧ K (.int .i64 (x * y))
  | .quo => ((0 ≤ x ∧ x ≤ 9223372036854775807 ∧ 0 < y) ∧ K (.int .i64 (x / y))) ∨ ((y ≠ 0 ∧ -9223372036854775808 ≤ x.tdiv y ∧ x.tdiv y ≤ 9223372036854775807) ∧ K (.int .i64 (x.tdiv y)))
  | .rem => ((0 ≤ x ∧ 0 < y) ∧ K (.int .i64 (x % y))) ∨ (y ≠ 0 ∧ K (.int .i64 (x.tmod y)))
  | .eql => K (.bool (x == y))
  | .neq => K (.bool (x != y))
  | .lss => K (.bool (decide (x < y)))
  | .leq => K (.bool (decide (x ≤ y)))
  | .gtr => K (.bool (decide (x > y)))
  | .geq => K (.bool (decide (x ≥ y)))
  | _ => False
/-- Whole numbers of another kind. -/
def intA (op : BinOp) (k : IntKind) (x y : Int) : Option AV :=
  match op with
  | .add => some (.int k (k.wrap (x + y)))
  | .sub => some (.int k (k.wrap (x - y)))
  | .mul => some (.int k (k.wrap (x * y)))
  | .quo => if y = 0 then none else some (.int k (k.wrap (x.tdiv y)))
  | .rem => if y = 0 then none else some (.int k (x.tmod y))
  | .eql => some (.bool (x == y))
  | .neq => some (.bool (x != y))
  | .lss => some (.bool (decide (x < y)))
  | .leq => some (.bool (decide (x ≤ y)))
  | .gtr => some (.bool (decide (x > y)))
  | .geq => some (.bool (decide (x ≥ y)))
  | .and => some (.int k (k.wrap (BitVec.ofInt k.bits x &&& BitVec.ofInt k.bits y).toNat))
  | .or => some (.int k (k.wrap (BitVec.ofInt k.bits x ||| BitVec.ofInt k.bits y).toNat))
  | .xor => some (.int k (k.wrap (BitVec.ofInt k.bits x ^^^ BitVec.ofInt k.bits y).toNat))
  | .andNot => some (.int k (k.wrap (BitVec.ofInt k.bits x &&& ~~~BitVec.ofInt k.bits y).toNat))
  | .shl | .shr => none
def shiftA (op : BinOp) (k : IntKind) (x y : Int) : Option AV :=
  if y < 0 then none else
  match op with
  | .shl => some (.int k (k.wrap (x * 2 ^ (min y.toNat k.bits))))
  | .shr => some (.int k (x.fdiv (2 ^ (min y.toNat k.bits))))
  | _ => none
def onO (x : Option AV) (K : AV → Prop) : Prop :=
  match x with
  | some y => K y
  | none => False
/-- Is a slice nil? -/
def nilK (L : Loc) (x : AV) (K : Bool → Prop) : Prop :=
  match x with
  | .nil => K true
  | .osl k => match L k with
    | .live (.tab _ xs) => 0 < xs.length ∧ K false
    | _ => False
  | .sli _ xs _ => 0 < xs.length ∧ K false
  | _ => False
def isSli (P : Program) (T : TypeId) : Bool :=
  match P.underlying T with
  | some (.slice _) => true
  | _ => false
def binK (P : Program) (L : Loc) (op : BinOp) (T : TypeId) (x y : AV) (K : AV → Prop) : Prop :=
  match x, y with
  | .int k a, .int k' b => match op with
    | .shl => onO (shiftA .shl k a b) K
    | .shr => onO (shiftA .shr k a b) K
    | op => match k, k' with
      | .i64, .i64 => i64K op a b K
      | k, k' => if k = k' then onO (intA op k a b) K else False
  | .flt k a, .flt k' b => if k = k' then (if isArith op then K (.flt k (fop op k a b)) else if isCmp op then K (.bool (fcmp op k a b)) else False) else False
  | .fbits a, .int k n => if k = .u64 ∧ n = 9223372036854775808 ∧ op = .andNot then K (.fbits (fabs64 a)) else
      (isNaN .f64 a = false ∧ k = .u64 ∧ op ≠ .shl ∧ op ≠ .shr) ∧ onO (intA op .u64 a n) K
  | .bool a, .bool b => match P.underlying T with
    | some .bool => (match op with | .eql => K (.bool (a == b)) | .neq => K (.bool (a != b)) | _ => False)
    | _ => False
  | .cpx k a b, .cpx k' c d => if k = k' then (match op with
    | .add => K (.cpx k (fop .add k a c) (fop .add k b d))
    | .sub => K (.cpx k (fop .sub k a c) (fop .sub k b d))
    | .eql => K (.bool (fcmp .eql k a c && fcmp .eql k b d))
    | .neq => K (.bool !(fcmp .eql k a c && fcmp .eql k b d))
    | _ => False) else False
  | x, .nil => match isSli P T, op with
    | true, .eql => nilK L x fun b => K (.bool b)
    | true, .neq => nilK L x fun b => K (.bool !b)
    | _, _ => False
  | _, _ => False

section
variable {F F' : Nat → Prop} {N : Nat} {pn : Option (Nat × Nat)} {Tg Tg' : AV → Value → Prop} {w0 w w' : World} {sh : Sh} {m m' : Mp} {L L' : Loc} {fr : Fr} {a : Act} {P : Program}

theorem wrap_in {n : Int} (h : -9223372036854775808 ≤ n ∧ n ≤ 9223372036854775807) : IntKind.i64.wrap n = n := IntWalk.i64_in _ (by omega)
theorem run_i64K {op : BinOp} {x y : Int} (t : TypeId) {K : AV → Prop} (h : i64K op x y K) : ∃ r v, K r ∧ (binOp op t (.int .i64 x) (.int .i64 y)).run P w = .ok v w ∧ VR F Tg w m L r v ∧ plain r = true ∧ op ≠ .shl ∧ op ≠ .shr := by
  unfold i64K at h
  cases op <;> simp only at h
  case add => exact ⟨_, .int .i64 (x + y), h.2, by simp [binOp, Op.intArith, wrap_in h.1], by simp [VR], rfl, by simp, by simp⟩
  case sub => exact ⟨_, .int .i64 (x - y), h.2, by simp [binOp, Op.intArith, wrap_in h.1], by simp [VR], rfl, by simp, by simp⟩
  case mul => exact ⟨_, .int .i64 (x * y), h.2, by simp [binOp, Op.intArith, wrap_in h.1], by simp [VR], rfl, by simp, by simp⟩
  case quo =>
    rcases h with ⟨⟨h0, h1, h2⟩, hK⟩ | ⟨⟨h0, h1⟩, hK⟩
    · have hy : y ≠ 0 := by omega
      have e : x.tdiv y = x / y := Int.tdiv_eq_ediv_of_nonneg h0
      have hr : -9223372036854775808 ≤ x / y ∧ x / y ≤ 9223372036854775807 := by
        have h3 := Int.ediv_nonneg h0 (by omega : 0 ≤ y)
        have h4 : x / y ≤ x := Int.ediv_le_self _ h0
        omega
      exact ⟨_, .int .i64 (x / y), hK, by simp [binOp, Op.intDiv, hy, e, wrap_in hr], by simp [VR], rfl, by simp, by simp⟩
    · exact ⟨_, .int .i64 (x.tdiv y), hK, by simp [binOp, Op.intDiv, h0, wrap_in h1], by simp [VR], rfl, by simp, by simp⟩
  case rem =>
    rcases h with ⟨⟨h0, h2⟩, hK⟩ | ⟨h0, hK⟩
    · have hy : y ≠ 0 := by omega
      have e : x.tmod y = x % y := Int.tmod_eq_emod_of_nonneg h0
      exact ⟨_, .int .i64 (x % y), hK, by simp [binOp, Op.intDiv, hy, e], by simp [VR], rfl, by simp, by simp⟩
    · exact ⟨_, .int .i64 (x.tmod y), hK, by simp [binOp, Op.intDiv, h0], by simp [VR], rfl, by simp, by simp⟩
  case eql => exact ⟨_, .bool (x == y), h, by simp [binOp, Op.intCmp], by simp [VR], rfl, by simp, by simp⟩
  case neq => exact ⟨_, .bool (x != y), h, by simp [binOp, Op.intCmp], by simp [VR], rfl, by simp, by simp⟩
  case lss => exact ⟨_, .bool (decide (x < y)), h, by simp [binOp, Op.intCmp], by simp [VR], rfl, by simp, by simp⟩
  case leq => exact ⟨_, .bool (decide (x ≤ y)), h, by simp [binOp, Op.intCmp], by simp [VR], rfl, by simp, by simp⟩
  case gtr => exact ⟨_, .bool (decide (x > y)), h, by simp [binOp, Op.intCmp], by simp [VR], rfl, by simp, by simp⟩
  case geq => exact ⟨_, .bool (decide (x ≥ y)), h, by simp [binOp, Op.intCmp], by simp [VR], rfl, by simp, by simp⟩
theorem run_intA {op : BinOp} {k : IntKind} {x y : Int} {r : AV} (t : TypeId) (h : intA op k x y = some r) : ∃ v, (binOp op t (.int k x) (.int k y)).run P w = .ok v w ∧ VR F Tg w m L r v := by
  cases op <;> simp only [intA] at h <;> first
    | (cases h; done)
    | (cases h; exact ⟨_, by simp [binOp, Op.intArith, Op.intBits, Op.intCmp]; rfl, by simp [VR]⟩)
    | (split at h
       · cases h
       · rename_i hy; cases h; exact ⟨_, by simp [binOp, Op.intDiv, hy]; rfl, by simp [VR]⟩)
theorem run_shiftA {op : BinOp} {k k' : IntKind} {x y : Int} {r : AV} (t : TypeId) (hop : op = .shl ∨ op = .shr) (h : shiftA op k x y = some r) : ∃ v, (binOp op t (.int k x) (.int k' y)).run P w = .ok v w ∧ VR F Tg w m L r v := by
  unfold shiftA at h
  split at h
  · cases h
  · rename_i hy
    rcases hop with rfl | rfl <;> simp only at h <;> cases h
    · exact ⟨_, by simp [binOp, Op.shift, hy]; rfl, by simp [VR]⟩
    · exact ⟨_, by simp [binOp, Op.shift, hy]; rfl, by simp [VR]⟩
theorem Below.draw (w : World) (d : Nat) : Below w.heap.size w { w with drawn := d } := ⟨rfl, rfl, rfl, Nat.le_refl _, fun _ _ => rfl⟩
theorem run_equalIn_bool {T : TypeId} (hT : P.underlying T = some .bool) (d : Nat) (x y : Bool) : (Op.equalIn (d + 1) T (.bool x) (.bool y)).run P w = .ok (x == y) w := by
  simp [Op.equalIn, run_underlying hT]
theorem run_equal_bool {T : TypeId} (hT : P.underlying T = some .bool) (x y : Bool) : (Op.equal T (.bool x) (.bool y)).run P w = .ok (x == y) w := run_equalIn_bool hT 9999 x y
theorem run_equalIn_nil {T : TypeId} {e : TypeId} (hT : P.underlying T = some (.slice e)) (d : Nat) (b : Option Addr) (n c : Nat) : (Op.equalIn (d + 1) T (.slice b n c) (.slice none 0 0)).run P w = .ok b.isNone w := by
  cases b <;> simp [Op.equalIn, run_underlying hT]
theorem run_equal_nil {T : TypeId} {e : TypeId} (hT : P.underlying T = some (.slice e)) (b : Option Addr) (n c : Nat) : (Op.equal T (.slice b n c) (.slice none 0 0)).run P w = .ok b.isNone w := run_equalIn_nil hT 9999 b n c
theorem nilK_sound {L1 : Loc} (hE : Ext L1 L) {x : AV} {u : Value} {K : Bool → Prop} (hx : VR F Tg w m L x u) (h : nilK L1 x K) : ∃ b p n c, K b ∧ u = .slice p n c ∧ p.isNone = b := by
  unfold nilK at h
  split at h
  · simp only [VR] at hx; exact ⟨_, _, _, _, h, hx, rfl⟩
  · split at h
    · rename_i k r xs hL
      simp only [VR] at hx
      rcases hx.2 _ _ (hE _ _ hL hx.1) with ⟨e, _⟩ | ⟨_, cap, e, _⟩
      · rw [e] at h; simp at h
      · exact ⟨_, _, _, _, h.2, e, rfl⟩
    · exact h.elim
  · simp only [VR] at hx
    obtain ⟨_, ⟨b, _, rfl⟩ | ⟨b, off, cap, e, _⟩⟩ := hx
    · simp at h
    · exact ⟨_, _, _, _, h.2, e, rfl⟩
  · exact h.elim
theorem binK_sound {op : BinOp} {T : TypeId} {x y : AV} {u v : Value} {L1 : Loc} (hE : Ext L1 L) {K : AV → Prop} (hx : VR F Tg w m L x u) (hy : VR F Tg w m L y v) (h : binK P L1 op T x y K) :
    ∃ r d z, K r ∧ (binOp op T u v).run P w = .ok z { w with drawn := d } ∧ VR F Tg w m L r z := by
  have onI : ∀ {k : IntKind} {x y : Int} {op : BinOp}, onO (intA op k x y) K → ∃ r d z, K r ∧ (binOp op T (.int k x) (.int k y)).run P w = .ok z { w with drawn := d } ∧ VR F Tg w m L r z := by
    intro k x y op h
    cases hi : intA op k x y with
    | none => rw [hi] at h; exact h.elim
    | some r =>
      rw [hi] at h
      obtain ⟨z, h1, h2⟩ := run_intA (P := P) (w := w) (F := F) (Tg := Tg) (m := m) (L := L) T hi
      exact ⟨r, w.drawn, z, h, h1, h2⟩
  unfold binK at h
  split at h
  · rename_i k a k' b
    simp only [VR] at hx hy; subst hx; subst hy
    have onS : ∀ {op : BinOp}, op = .shl ∨ op = .shr → onO (shiftA op k a b) K → ∃ r d z, K r ∧ (binOp op T (.int k a) (.int k' b)).run P w = .ok z { w with drawn := d } ∧ VR F Tg w m L r z := by
      intro op hop h
      cases hi : shiftA op k a b with
      | none => rw [hi] at h; exact h.elim
      | some r =>
        rw [hi] at h
        obtain ⟨z, h1, h2⟩ := run_shiftA (P := P) (w := w) (F := F) (Tg := Tg) (m := m) (L := L) (k' := k') T hop hi
        exact ⟨r, w.drawn, z, h, h1, h2⟩
    split at h
    · exact onS (.inl rfl) h
    · exact onS (.inr rfl) h
    · split at h
      · obtain ⟨r, z, h0, h1, h2, _⟩ := run_i64K (P := P) (w := w) (F := F) (Tg := Tg) (m := m) (L := L) T h
        exact ⟨r, w.drawn, z, h0, h1, h2⟩
      · split at h
        · rename_i hk; subst hk
          exact onI h
        · exact h.elim
  · simp only [VR] at hx hy
    obtain ⟨b, rfl, hb⟩ := hx
    obtain ⟨c, rfl, hc⟩ := hy
    split at h
    · rename_i hk; subst hk
      split at h
      · rename_i ha
        obtain ⟨z, d, h1, h2⟩ := run_fop (P := P) w (op := op) (by cases op <;> simp [isArith] at ha <;> simp) T hb hc
        exact ⟨_, d, _, h, h1, by simp only [VR]; exact ⟨z, rfl, h2⟩⟩
      · split at h
        · rename_i hcm
          exact ⟨_, w.drawn, _, h, run_fcmp hcm T hb hc, by simp [VR]⟩
        · exact h.elim
    · exact h.elim
  · simp only [VR] at hx hy
    obtain ⟨b, rfl, hb⟩ := hx
    subst hy
    split at h
    · rename_i hk
      obtain ⟨rfl, rfl, rfl⟩ := hk
      refine ⟨_, w.drawn, .int .u64 ((b % 2 ^ 63 : Nat) : Int), h, ?_, by simp only [VR]; exact ⟨_, rfl, fabs64_sound hb⟩⟩
      have hb64 : b < 2 ^ 64 := hb.1
      have := andNot_sign hb64
      have hw : IntKind.u64.wrap ((b % 2 ^ 63 : Nat) : Int) = ((b % 2 ^ 63 : Nat) : Int) := IntWalk.u64_in _ (by omega)
      refine (congrArg (fun n : Nat => (Result.ok (Value.int .u64 (IntKind.u64.wrap (n : Int))) w : Result Value)) this).trans ?_
      simp only [hw]
    · obtain ⟨⟨hn, rfl, hs1, hs2⟩, h⟩ := h
      rw [hb.nan] at hn
      have := hb.eq hn
      subst this
      exact onI h
  · simp only [VR] at hx hy; subst hx; subst hy
    split at h
    · rename_i hT
      split at h
      · exact ⟨_, w.drawn, .bool _, h, by simp [binOp, run_equal_bool hT]; rfl, by simp [VR]⟩
      · exact ⟨_, w.drawn, .bool (_ != _), h, by simp only [binOp, Sem.run_bind, run_equal_bool hT, Result.andThen_ok, Sem.run_pure]; rfl, by simp [VR]⟩
      · exact h.elim
    · exact h.elim
  · rename_i k a1 b1 k' c1 d1
    simp only [VR] at hx hy
    obtain ⟨a', b', rfl, ha, hb⟩ := hx
    obtain ⟨c', d', rfl, hc, hd⟩ := hy
    have hcmp : ∀ {p q p' q' : Nat}, Fl k p p' → Fl k q q' → (Op.Complex.cmp .eql k p q).run P w = .ok (fcmp .eql k p' q') w := fun {p q p' q'} hp hq => by
      have := order_canon hp hq
      simp [Op.Complex.cmp, Op.floatCmp, fcmp, asBool, this]
    split at h
    · rename_i hk; subst hk
      split at h
      · obtain ⟨r1, d1', h1, h2⟩ := run_carith' (P := P) (w := w) (op := .add) (by simp) ha hc
        obtain ⟨r2, d2', h3, h4⟩ := run_carith' (P := P) (w := { w with drawn := d1' }) (op := .add) (by simp) hb hd
        refine ⟨_, d2', .complex k r1 r2, h, ?_, by simp only [VR]; exact ⟨r1, r2, rfl, h2, h4⟩⟩
        simp [binOp, Op.complexOp, h1, h3]
      · obtain ⟨r1, d1', h1, h2⟩ := run_carith' (P := P) (w := w) (op := .sub) (by simp) ha hc
        obtain ⟨r2, d2', h3, h4⟩ := run_carith' (P := P) (w := { w with drawn := d1' }) (op := .sub) (by simp) hb hd
        refine ⟨_, d2', .complex k r1 r2, h, ?_, by simp only [VR]; exact ⟨r1, r2, rfl, h2, h4⟩⟩
        simp [binOp, Op.complexOp, h1, h3]
      · exact ⟨_, w.drawn, .bool _, h, by simp [binOp, Op.complexOp, hcmp ha hc, hcmp hb hd]; rfl, by simp [VR]⟩
      · exact ⟨_, w.drawn, .bool _, h, by simp [binOp, Op.complexOp, hcmp ha hc, hcmp hb hd]; rfl, by simp [VR]⟩
      · exact h.elim
    · exact h.elim
  · simp only [VR] at hy
    subst hy
    split at h
    · have hs : isSli P T = true := by assumption
      obtain ⟨b, p, n, c, hK, rfl, hb⟩ := nilK_sound hE hx h
      unfold isSli at hs
      split at hs
      · rename_i e he
        exact ⟨_, w.drawn, .bool _, hK, by simp [binOp, run_equal_nil he, hb]; rfl, by simp [VR]⟩
      · cases hs
    · have hs : isSli P T = true := by assumption
      obtain ⟨b, p, n, c, hK, rfl, hb⟩ := nilK_sound hE hx h
      unfold isSli at hs
      split at hs
      · rename_i e he
        exact ⟨_, w.drawn, .bool (!p.isNone), hK, by simp only [binOp, Sem.run_bind, run_equal_nil he, Result.andThen_ok, Sem.run_pure], by simp [VR, hb]⟩
      · cases hs
    · exact h.elim
  · exact h.elim
theorem run_eqGuard {op : BinOp} {T : TypeId} {x y : Operand} {u v : Value} (h : ∀ cs, u ≠ .agg cs) (h' : u ≠ .nilIface) : (eqGuard op T x y u v).run P w = .ok () w := by
  unfold eqGuard
  cases u <;> first
    | exact absurd rfl h'
    | exact absurd rfl (h _)
    | (cases op <;> rfl)
theorem nilK_scalar {x : AV} {L1 : Loc} {K : Bool → Prop} {u : Value} (hE : Ext L1 L) (hx : VR F Tg w m L x u) (h : nilK L1 x K) : (∀ cs, u ≠ .agg cs) ∧ u ≠ .nilIface := by
  obtain ⟨b, p, n, c, _, rfl, _⟩ := nilK_sound hE hx h
  simp
theorem binK_scalar {op : BinOp} {T : TypeId} {x y : AV} {u : Value} {L1 : Loc} (hE : Ext L1 L) {K : AV → Prop} (hx : VR F Tg w m L x u) (h : binK P L1 op T x y K) : (∀ cs, u ≠ .agg cs) ∧ u ≠ .nilIface := by
  unfold binK at h
  split at h
  · simp only [VR] at hx; subst hx; simp
  · simp only [VR] at hx; obtain ⟨b, rfl, _⟩ := hx; simp
  · simp only [VR] at hx; obtain ⟨b, rfl, _⟩ := hx; simp
  · simp only [VR] at hx; subst hx; simp
  · simp only [VR] at hx; obtain ⟨b, c, rfl, _⟩ := hx; simp
  · split at h
    · exact nilK_scalar hE hx h
    · exact nilK_scalar hE hx h
    · exact h.elim
  · exact h.elim
end

def unK (op : UnOp) (x : AV) (K : AV → Prop) : Prop :=
  match op, x with
  | .not, .bool b => K (.bool !b)
  | .neg, .int .i64 n => (-9223372036854775808 ≤ -n ∧ -n ≤ 9223372036854775807) ∧ K (.int .i64 (-n))
  | .neg, .flt k x => K (.flt k (fneg k x))
  | .neg, .cpx k x y => K (.cpx k (fneg k x) (fneg k y))
  | _, _ => False
theorem foi_ex (k : FloatKind) (n : Int) : ∃ x : Nat, x = floatOfInt k n := ⟨_, rfl⟩
/-- 'floatOfInt', which no reckoner unfolds. -/
noncomputable def foi (k : FloatKind) (n : Int) : Nat := Classical.choose (foi_ex k n)
theorem foi_eq (k : FloatKind) (n : Int) : foi k n = floatOfInt k n := Classical.choose_spec (foi_ex k n)
/-- Conversions. -/
def cvK (P : Program) (src dst : TypeId) (x : AV) (K : AV → Prop) : Prop :=
  match P.underlying src, P.underlying dst, x with
  | some _, some (.int .i64), .int _ n => (-9223372036854775808 ≤ n ∧ n ≤ 9223372036854775807) ∧ K (.int .i64 n)
  | some _, some (.int k), .int _ n => K (.int k (k.wrap n))
  | some _, some (.float k), .int _ n => K (.flt k (foi k n))
  | some _, some (.float k), .flt s x => match s, k with
    | .f32, .f64 => K (.flt .f64 (fwiden x))
    | .f64, .f32 => tooBig x = false ∧ K (.flt .f32 (fnarrow x))
    | s, _ => K (.flt s x)
  | some _, some (.int k), .flt s x => ∃ n, floatToIntVal s x k = some n ∧ K (.int k n)
  | some _, some (.int .i64), .fbits x => isNaN .f64 x = false ∧ K (.int .i64 (IntKind.i64.wrap x))
  | some _, some (.complex k), .cpx s x y => match cvF s k x, cvF s k y with
    | some x', some y' => K (.cpx k x' y')
    | _, _ => False
  | _, _, _ => False

section
variable {F F' : Nat → Prop} {N : Nat} {pn : Option (Nat × Nat)} {Tg Tg' : AV → Value → Prop} {w0 w w' : World} {sh : Sh} {m m' : Mp} {L L' : Loc} {fr : Fr} {a : Act} {P : Program}
theorem unK_sound {op : UnOp} {x : AV} {u : Value} {K : AV → Prop} (hx : VR F Tg w m L x u) (h : unK op x K) : ∃ r z, K r ∧ (Op.unary op u).run P w = .ok z w ∧ VR F Tg w m L r z := by
  unfold unK at h
  split at h
  · simp only [VR] at hx; subst hx; exact ⟨_, _, h, rfl, by simp [VR]⟩
  · rename_i n
    simp only [VR] at hx; subst hx
    have e : IntKind.i64.wrap (0 - n) = -n := by rw [Int.zero_sub]; exact wrap_in h.1
    exact ⟨_, .int .i64 (IntKind.i64.wrap (0 - n)), h.2, rfl, by simp only [VR]; rw [e]⟩
  · simp only [VR] at hx; obtain ⟨b, rfl, hb⟩ := hx
    exact ⟨_, _, h, rfl, by simp only [VR]; exact ⟨_, rfl, fneg_sound hb⟩⟩
  · simp only [VR] at hx; obtain ⟨b, c, rfl, hb, hc⟩ := hx
    exact ⟨_, _, h, rfl, by simp only [VR]; exact ⟨_, _, rfl, fneg_sound hb, fneg_sound hc⟩⟩
  · exact h.elim
set_option maxHeartbeats 2000000 in
theorem cvK_sound {src dst : TypeId} {x : AV} {u : Value} {K : AV → Prop} (hx : VR F Tg w m L x u) (h : cvK P src dst x K) : ∃ r d z, K r ∧ (convert src dst u).run P w = .ok z { w with drawn := d } ∧ VR F Tg w m L r z := by
  unfold cvK at h
  split at h
  · rename_i us q n hs hd
    simp only [VR] at hx; subst hx
    exact ⟨_, w.drawn, .int .i64 (IntKind.i64.wrap n), h.2, by cases us <;> simp [convert, run_underlying hs, run_underlying hd, Conv.intToInt], by simp only [VR]; rw [wrap_in h.1]⟩
  · rename_i us k q n _ hs hd
    simp only [VR] at hx; subst hx
    exact ⟨_, w.drawn, .int k (k.wrap n), h, by cases us <;> simp [convert, run_underlying hs, run_underlying hd, Conv.intToInt], by simp [VR]⟩
  · rename_i us k q n hs hd
    simp only [VR] at hx; subst hx
    rw [foi_eq] at h
    refine ⟨_, w.drawn, _, h, run_convert_int_float w src dst q k n (by simp [hs]) hd, ?_⟩
    simp only [VR]
    exact ⟨_, rfl, fl_write (d := .number (n < 0) n.natAbs 0) rfl⟩
  · rename_i us k s x hs hd
    simp only [VR] at hx
    obtain ⟨b, rfl, hb⟩ := hx
    have fin : ∀ {y : Nat}, cvF s k x = some y → K (.flt k y) → ∃ r d z, K r ∧ (convert src dst (.float s b)).run P w = .ok z { w with drawn := d } ∧ VR F Tg w m L r z := by
      intro y hy hK
      obtain ⟨z, d, h1, h2⟩ := run_cvF (P := P) (w := w) hb hy
      refine ⟨_, d, .float k z, hK, ?_, by simp only [VR]; exact ⟨z, rfl, h2⟩⟩
      cases us <;> simpa [convert, run_underlying hs, run_underlying hd] using h1
    split at h
    · exact fin rfl h
    · exact fin (by simp [cvF, h.1]) h.2
    · rename_i n1 n2
      have e : s = k := by cases s <;> cases k <;> simp_all
      subst e
      exact fin (by cases s <;> rfl) h
  · rename_i us k s x hs hd
    simp only [VR] at hx
    obtain ⟨b, rfl, hb⟩ := hx
    obtain ⟨n, hn, hK⟩ := h
    exact ⟨_, w.drawn, _, hK, run_convert_float_int w src dst s k b n (by simp [hs]) hd (floatToIntVal_canon hb hn), by simp [VR]⟩
  · rename_i us x hs hd
    obtain ⟨hn, hK⟩ := h
    simp only [VR] at hx
    obtain ⟨b, rfl, hb⟩ := hx
    rw [hb.nan] at hn
    have := hb.eq hn; subst this
    exact ⟨_, w.drawn, .int .i64 (IntKind.i64.wrap b), hK, by cases us <;> simp [convert, run_underlying hs, run_underlying hd, Conv.intToInt], by simp [VR]⟩
  · rename_i us k s x y hs hd
    simp only [VR] at hx
    obtain ⟨b, c, rfl, hb, hc⟩ := hx
    split at h
    · rename_i x' y' hx' hy'
      obtain ⟨z1, d1, h1, h2⟩ := run_cvF (P := P) (w := w) hb hx'
      obtain ⟨z2, d2, h3, h4⟩ := run_cvF (P := P) (w := { w with drawn := d1 }) hc hy'
      refine ⟨_, d2, .complex k z1 z2, h, ?_, by simp only [VR]; exact ⟨z1, z2, rfl, h2, h4⟩⟩
      cases us <;> simp [convert, run_underlying hs, run_underlying hd, Conv.complexToComplex, h1, h3]
    · exact h.elim
  · exact h.elim
end

/-! ### Composites -/
def fillA (place : Nat → Option (Nat × Nat)) (cells : List AV) : List (Nat × AV) → Option (List AV)
  | [] => some cells
  | (i, x) :: rest => match place i with
    | none => none
    | some (off, size) => match cellsA x with
      | some cs => match Nat.beq cs.length size && Nat.ble (off + size) cells.length with
        | true => fillA place (setsA cells off cs) rest
        | false => none
      | none => none
def zerosA (z : Value) (n : Nat) : List AV :=
  if z.cells.size = 1 then List.replicate n (ofCell z.cells[0]!) else (List.range n).map fun i => ofCell (z.cells[i % z.cells.size]!)
def placesA (P : Program) : List Field → Option (List (Nat × Nat))
  | [] => some []
  | f :: fs => match szOf P f.type, placesA P fs with
    | some n, some ps => some ((f.offset, n) :: ps)
    | _, _ => none
/-- Some cells as rows. -/
def decRows (r : RK) : Nat → List AV → Option (List r.T)
  | 0, cells => match cells with
    | [] => some []
    | _ => none
  | n + 1, cells => match r.dec (cells.take r.w), decRows r n (cells.drop r.w) with
    | some x, some xs => some (x :: xs)
    | _, _ => none

section
variable {F F' : Nat → Prop} {N : Nat} {pn : Option (Nat × Nat)} {Tg Tg' : AV → Value → Prop} {w0 w w' : World} {sh : Sh} {m m' : Mp} {L L' : Loc} {fr : Fr} {a : Act} {P : Program}
theorem decRows_eq (r : RK) : ∀ (n : Nat) {cells : List AV} {xs : List r.T}, decRows r n cells = some xs → rowsA r xs = cells ∧ xs.length = n
  | 0, cells, xs, h => by
    unfold decRows at h
    split at h
    · cases h; exact ⟨rfl, rfl⟩
    · cases h
  | n + 1, cells, xs, h => by
    simp only [decRows] at h
    split at h
    · rename_i x ys hx hys
      cases h
      obtain ⟨h1, h2⟩ := decRows_eq r n hys
      refine ⟨?_, by simp [h2]⟩
      simp only [rowsA] at h1
      simp only [rowsA, List.flatMap_cons]
      rw [h1, r.dec_enc _ _ hx, List.take_append_drop]
    · cases h

theorem foldl_sets : ∀ (l : List Value) (k : Nat) (c : Array Value) (off : Nat),
    (l.zipIdx k).foldl (fun cs (p : Value × Nat) => cs.setIfInBounds (off + p.2) p.1) c = (setsC c.toList (off + k) l).toArray
  | [], _, c, _ => by simp [setsC]
  | v :: l, k, c, off => by
    simp only [List.zipIdx_cons, List.foldl_cons]
    rw [foldl_sets l (k + 1), setsC]
    simp [Nat.add_assoc, Array.toList_setIfInBounds]
theorem fill_step (v : Value) (off : Nat) (c : Array Value) :
    v.cells.zipIdx.foldl (fun cs (p : Value × Nat) => cs.setIfInBounds (off + p.2) p.1) c = (setsC c.toList off v.cells.toList).toArray := by
  rw [← Array.foldl_toList, Array.toList_zipIdx, foldl_sets]; rfl

/-- Parts, abstract and not. -/
def Parts (F : Nat → Prop) (Tg : AV → Value → Prop) (w : World) (m : Mp) (L : Loc) : List (Nat × AV) → List (Nat × Value) → Prop
  | [], ps => ps = []
  | (i, x) :: xs, ps => ∃ v ps', ps = (i, v) :: ps' ∧ VR F Tg w m L x v ∧ livesA L x = true ∧ Parts F Tg w m L xs ps'
theorem fill_sound (place : Nat → Option (Nat × Nat)) : ∀ {ps : List (Nat × AV)} {qs : List (Nat × Value)} {cells cells' : List AV} {c : Array Value}, Parts F Tg w m L ps qs → VRs F Tg w m L cells c.toList → fillA place cells ps = some cells' →
    ∃ c', Instr.fill place c qs = some c' ∧ VRs F Tg w m L cells' c'.toList
  | [], _, cells, cells', c, hp, hc, h => by
    simp only [Parts] at hp; subst hp
    simp only [fillA] at h; cases h
    exact ⟨c, rfl, hc⟩
  | (i, x) :: ps, _, cells, cells', c, hp, hc, h => by
    simp only [Parts] at hp
    obtain ⟨v, qs, rfl, hv, hl, hp⟩ := hp
    simp only [fillA] at h
    cases hpl : place i with
    | none => simp [hpl] at h
    | some os =>
      obtain ⟨off, size⟩ := os
      simp only [hpl] at h
      cases hcs : cellsA x with
      | none => simp [hcs] at h
      | some cs =>
        simp only [hcs] at h
        split at h
        · rename_i hsz
          simp only [Bool.and_eq_true, Nat.beq_eq, Nat.ble_eq] at hsz
          have hcv := cellsA_sound hv hl hcs
          have hlen := hcv.length
          have hlc := hc.length
          simp only [Array.length_toList] at hlen hlc
          obtain ⟨c', h1, h2⟩ := fill_sound place (c := (setsC c.toList off v.cells.toList).toArray) hp (by simpa using hc.sets off hcv) h
          refine ⟨c', ?_, h2⟩
          simp only [Instr.fill, hpl]
          rw [if_neg (by
            simp only [Bool.or_eq_true, decide_eq_true_eq, not_or]
            constructor
            · omega
            · omega)]
          rw [fill_step]; exact h1
        · cases h
theorem fillA_length {place : Nat → Option (Nat × Nat)} : ∀ {ps : List (Nat × AV)} {cells cells' : List AV}, fillA place cells ps = some cells' → cells'.length = cells.length
  | [], _, _, h => by simp only [fillA] at h; cases h; rfl
  | (i, x) :: ps, c, c', h => by
    simp only [fillA] at h
    split at h
    · cases h
    · split at h
      · split at h
        · rw [fillA_length h, setsA_length]
        · cases h
      · cases h
theorem zerosA_length (z : Value) (n : Nat) : (zerosA z n).length = n := by unfold zerosA; split <;> simp
theorem zerosA_sound (z : Value) (n : Nat) : VRs F Tg w m L (zerosA z n) ((Array.range n).map (z.cells[· % z.cells.size]!)).toList := by
  refine VRs.of_get ?_ fun i x hx => ?_
  · unfold zerosA; split <;> simp
  · unfold zerosA at hx
    split at hx
    · rename_i h1
      rw [List.getElem?_replicate] at hx
      split at hx
      · rename_i hi
        cases hx
        refine ⟨z.cells[i % z.cells.size]!, by simp [hi], ?_⟩
        rw [h1, Nat.mod_one]; exact ofCell_sound _
      · cases hx
    · have hi : i < n := by
        rcases Nat.lt_or_ge i n with h' | h'
        · exact h'
        · rw [List.getElem?_eq_none (by simpa using h')] at hx; cases hx
      simp [List.getElem?_range hi] at hx
      subst hx
      exact ⟨z.cells[i % z.cells.size]!, by simp [hi], ofCell_sound _⟩
/-- Rows of zeros. -/
theorem rowsA_replicate {r : RK} {z : Value} {row : r.T} (h : r.dec (z.cells.toList.map ofCell) = some row) (n : Nat) : ∀ (i : Nat) (x : AV), (rowsA r (List.replicate n row))[i]? = some x → ∃ c, ((Array.range (n * r.w)).map (z.cells[· % z.cells.size]!)).toList[i]? = some c ∧ SV x c := by
  intro i x hx
  have henc := r.dec_enc _ _ h
  have hsz : z.cells.size = r.w := by
    have := congrArg List.length henc
    rw [r.enc_len] at this
    simpa using this.symm
  have hi : i < n * r.w := by
    have := (List.getElem?_eq_some_iff.1 hx).1
    rwa [rowsA_len, List.length_replicate] at this
  have hw := r.w_pos
  have hq : i / r.w < n := by rw [Nat.div_lt_iff_lt_mul hw]; exact hi
  have hr : i % r.w < r.w := Nat.mod_lt _ hw
  have hg := rowsA_get r (List.replicate n row) (i / r.w) (i % r.w) (by simpa using hq) hr
  rw [Nat.mul_comm, Nat.div_add_mod, hx, List.getElem_replicate, henc, List.getElem?_map] at hg
  rw [Array.getElem?_toList] at hg
  refine ⟨z.cells[i % z.cells.size]!, by simp [hi], ?_⟩
  rw [hsz]
  have hb : z.cells[i % r.w]! = z.cells[i % r.w]'(by omega) := by rw [getElem!_pos z.cells (i % r.w) (by omega)]
  rw [Array.getElem?_eq_getElem (by omega)] at hg
  simp at hg
  rw [hb]
  have hp := rowsA_plain (List.mem_of_getElem? hx)
  have := ofCell_sound (F := fun _ => False) (Tg := fun _ _ => True) (w := default) (m := fun _ => (0, 0)) (L := fun _ => .free) (z.cells[i % r.w]'(by omega))
  rw [← hg] at this
  exact this.sv hp.1 hp.2
theorem places_run : ∀ (fs : List Field) (ps : List (Nat × Nat)), placesA P fs = some ps →
    (fs.mapM (m := Sem) fun f => do pure (f.offset, ← sizeOf f.type)).run P w = .ok ps w
  | [], ps, h => by simp [placesA] at h; subst h; rfl
  | f :: fs, ps, h => by
    simp only [placesA] at h
    cases h1 : szOf P f.type with
    | none => simp [h1] at h
    | some n =>
      cases h2 : placesA P fs with
      | none => simp [h1, h2] at h
      | some ps' =>
        simp [h1, h2] at h; subst h
        have ih := places_run fs ps' h2
        simp only [List.mapM_cons, Sem.run_bind, run_sizeOf' h1, Result.andThen_ok, Sem.run_pure, ih]
end
end Go.Bx
