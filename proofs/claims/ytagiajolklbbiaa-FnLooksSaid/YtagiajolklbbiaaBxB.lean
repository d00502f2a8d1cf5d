/- From the row's words on an argument to the executor's: scalars, structs, slices of rows, a struct that holds a slice. -/
import Derived.Test.YtagiajolklbbiaaBxZ
import Derived.ProofKit
import Derived.Deep.Slices
namespace Go.Bx
open Go.Ax

theorem list1 {l : List Nat} (h : l.length = 1) : ∃ a, l = [a] := by
  match l, h with
  | [a], _ => exact ⟨a, rfl⟩
theorem list4 {l : List Nat} (h : l.length = 4) : ∃ a b c d, l = [a, b, c, d] := by
  match l, h with
  | [a, b, c, d], _ => exact ⟨a, b, c, d, rfl⟩
theorem list5 {l : List Nat} (h : l.length = 5) : ∃ a b c d e, l = [a, b, c, d, e] := by
  match l, h with
  | [a, b, c, d, e], _ => exact ⟨a, b, c, d, e, rfl⟩
section
variable {P : Program} {w : World} {r : Reach} {base : Nat} {t T : TypeId} {v : Value} {F : Nat → Prop} {Tg : AV → Value → Prop} {m : Mp} {L : Loc}
theorem cellOk_f32 (hT : P.underlying T = some (.float .f32)) (h : Cell.okWide P w r base T v) : ∃ b, v = .float .f32 b ∧ b < 2 ^ 32 := by
  simp only [Cell.okWide, hT, Cell.ok] at h
  cases v <;> simp at h
  obtain ⟨rfl, h⟩ := h
  exact ⟨_, rfl, h⟩
theorem okWide_f32 (hT : P.underlying T = some (.float .f32)) (h : Value.okWide P w r base T v) : ∃ b, v = .float .f32 b ∧ b < 2 ^ 32 := by
  simp only [Value.okWide, hT] at h
  exact cellOk_f32 hT h
theorem cellOk_int {k : IntKind} (hT : P.underlying T = some (.int k)) (h : Cell.okWide P w r base T v) : ∃ n : Int, v = .int k n ∧ k.min ≤ n ∧ n ≤ k.max := by
  simp only [Cell.okWide, hT, Cell.ok] at h
  cases v <;> simp at h
  obtain ⟨rfl, h⟩ := h
  exact ⟨_, rfl, h⟩
theorem okWide_int {k : IntKind} (hT : P.underlying T = some (.int k)) (h : Value.okWide P w r base T v) : ∃ n : Int, v = .int k n ∧ k.min ≤ n ∧ n ≤ k.max := by
  simp only [Value.okWide, hT] at h
  exact cellOk_int hT h
theorem floats_list : ∀ (l : List Value), (∀ v ∈ l, ∃ b, v = .float .f32 b ∧ b < 2 ^ 32) → ∃ bs : List Nat, l = bs.map (.float .f32) ∧ ∀ b ∈ bs, b < 2 ^ 32
  | [], _ => ⟨[], rfl, by simp⟩
  | v :: l, h => by
    obtain ⟨b, rfl, hb⟩ := h v (by simp)
    obtain ⟨bs, rfl, hbs⟩ := floats_list l fun u hu => h u (by simp [hu])
    exact ⟨b :: bs, rfl, by simpa using ⟨hb, hbs⟩⟩
theorem okWide_aggf {fs : Array Field} {n : Nat} (hs : P.underlying t = some (.struct fs)) (hts : P.cellTypes P.depth t = some (List.replicate n T)) (hT : P.underlying T = some (.float .f32)) (hC : P.cellsOf t = n) (h : Value.okWide P w r base t v) :
    ∃ bs : List Nat, v = .agg (bs.map (.float .f32)).toArray ∧ bs.length = n ∧ ∀ b ∈ bs, b < 2 ^ 32 := by
  simp only [Value.okWide, hs] at h
  obtain ⟨cs, rfl, hsz, ts, hts', _, hc⟩ := h
  rw [hts] at hts'; cases hts'
  obtain ⟨bs, hbs, hlt⟩ := floats_list cs.toList fun u hu => by
    obtain ⟨i, hi, e⟩ := List.getElem_of_mem hu
    obtain ⟨U, hU, hok⟩ := hc i u (by rw [← e]; simp)
    have : U = T := by
      have := List.mem_of_getElem? hU
      exact List.eq_of_mem_replicate this
    subst this
    exact cellOk_f32 hT hok
  refine ⟨bs, ?_, ?_, hlt⟩
  · rw [← hbs]
  · have := congrArg List.length hbs
    simp at this; omega
theorem VR.aggf {bs : List Nat} (h : ∀ b ∈ bs, b < 2 ^ 32) : VR F Tg w m L (.agg (bs.map fun b => .flt .f32 (canon .f32 b))) (.agg (bs.map (.float .f32)).toArray) := by
  simp only [VR]
  refine ⟨_, rfl, ?_⟩
  induction bs with
  | nil => simp [VRs]
  | cons b bs ih =>
    simp only [List.map_cons, VRs]
    exact ⟨_, _, rfl, VR.f32 (h b (by simp)), by simpa using ih fun c hc => h c (by simp [hc])⟩
end

/-! ### Slices of rows -/
section
variable {P : Program} {w : World} {H : Type} {enc : TypeId × Value → H} {t e : TypeId} {v : Value} {d : DataW H} {p : List MemPlace}
/-- Cells that are a row. -/
def RowOf (r : RK) (Q : r.T → Prop) (cs : List Value) : Prop := ∃ y : r.T, Q y ∧ ∀ (j : Nat) (a : AV), (r.enc y)[j]? = some a → ∃ c, cs[j]? = some c ∧ SV a c
theorem slice_trod {r : RK} {Q : r.T → Prop} {fuel : Nat} (ht : P.underlying t = some (.slice e)) (hE : P.cellsOf e = r.w)
    (hrow : ∀ n cs x, DataW.trod enc P w 0 (fun _ => true) true n e cs = some x → cs.length = r.w → RowOf r Q cs)
    (hval : Value.okWide P w .any 0 t v) (hf : DataW.trod enc P w 0 (fun _ => true) true fuel t v.cells.toList = some (d, p)) :
    ∃ ys : List r.T, ys.length < 2 ^ 63 ∧ (∀ y ∈ ys, Q y) ∧ ∀ Tg m L, VR (fun b => b < w.heap.size) Tg w m L (.sli r ys .undef) v := by
  obtain ⟨a0, len0, cap0, rfl⟩ := WideShapes.okWide_slice ht hval
  rcases Deep.open_slice ht hf with ⟨hcs, _⟩ | ⟨a, len, cap, mm, n, D, Pl, hcs, hb, hl, hm, hmm, hx, hV⟩
  · simp [Value.cells] at hcs
    obtain ⟨rfl, rfl, rfl⟩ := hcs
    exact ⟨[], by simp, by simp, fun Tg m L => by simp [VR, tagged]⟩
  · simp [Value.cells] at hcs
    obtain ⟨rfl, rfl, rfl⟩ := hcs
    simp only [if_true] at hmm
    subst hmm
    simp only [Value.okWide, ht, Cell.okWide, Cell.ok, World.has] at hval
    obtain ⟨_, _, _, hspot, row, cells, hsh, _⟩ := hval
    obtain ⟨b, off, spot⟩ := a
    simp only at hspot; subst hspot
    have hblk : b < w.heap.size := by
      rcases Nat.lt_or_ge b w.heap.size with h' | h'
      · exact h'
      · simp [World.shape?, Array.getElem?_eq_none h'] at hsh
    rw [hE] at hV
    have hadd : ∀ q, (⟨b, off, none⟩ : Addr).add q = ⟨b, off + q, none⟩ := fun q => by
      by_cases hz : q = 0
      · subst hz; rfl
      · simp [Addr.add, hz]
    have hrows : ∀ i, i < len0 → ∃ y : r.T, Q y ∧ ∀ j a, (r.enc y)[j]? = some a → ∃ c, w.cell? ⟨b, off + (i * r.w + j), none⟩ = some c ∧ SV a c := fun i hi => by
      obtain ⟨cs', h1, h2⟩ := hV i (by omega)
      obtain ⟨_, hlen, hcell⟩ := World.cells?_some h1
      obtain ⟨y, hy, hyc⟩ := hrow _ _ _ h2 hlen
      refine ⟨y, hy, fun j a hja => ?_⟩
      obtain ⟨c, hc, hsv⟩ := hyc j a hja
      refine ⟨c, ?_, hsv⟩
      have hj : j < r.w := by
        rw [← r.enc_len y]
        exact (List.getElem?_eq_some_iff.1 hja).1
      have := hcell j hj
      rwa [Deep.add_add, hadd, hc] at this
    haveI : Inhabited r.T := ⟨r.z⟩
    obtain ⟨F, hF⟩ := Deep.choose_lt (α := r.T) (p := fun i y => Q y ∧ ∀ j a, (r.enc y)[j]? = some a → ∃ c, w.cell? ⟨b, off + (i * r.w + j), none⟩ = some c ∧ SV a c) hrows
    have hmax : len0 < 2 ^ 63 := by unfold maxLen at hm; omega
    refine ⟨(List.range len0).map F, by simpa using hmax, fun c hc => ?_, fun Tg m L => ?_⟩
    · obtain ⟨i, hi, rfl⟩ := List.mem_map.1 hc
      exact (hF i (List.mem_range.1 hi)).1
    · simp only [VR]
      refine ⟨trivial, .inr ⟨b, off, mm, by simp, by simpa using hl, hblk, fun q x hx => ?_⟩⟩
      have hw : 0 < r.w := by cases r <;> simp [RK.w]
      have hq : q < (rowsA r ((List.range len0).map F)).length := (List.getElem?_eq_some_iff.1 hx).1
      rw [rowsA_len] at hq
      have hi : q / r.w < ((List.range len0).map F).length := by rw [Nat.div_lt_iff_lt_mul hw]; exact hq
      have hj : q % r.w < r.w := Nat.mod_lt q hw
      have hqq : q / r.w * r.w + q % r.w = q := by rw [Nat.mul_comm]; exact Nat.div_add_mod q r.w
      have hg := rowsA_get r ((List.range len0).map F) (q / r.w) (q % r.w) hi hj
      rw [hqq, hx] at hg
      have hi' : q / r.w < len0 := by simpa using hi
      obtain ⟨_, h2⟩ := hF (q / r.w) hi'
      have hg' : (r.enc (F (q / r.w)))[q % r.w]? = some x := by rw [hg]; simp
      obtain ⟨c, hc, hs⟩ := h2 _ _ hg'
      exact ⟨c, by rwa [hqq] at hc, hs⟩
theorem row_f32 (he : P.underlying e = some (.float .f32)) {n : Nat} {cs : List Value} {x : DataW H × List MemPlace} (h : DataW.trod enc P w 0 (fun _ => true) true n e cs = some x) (hl : cs.length = 1) : RowOf .f32 (fun y : Nat => y < 2 ^ 32) cs := by
  obtain ⟨c, rfl⟩ := List.length_eq_one_iff.1 hl
  clear hl
  · skip
    cases n with
    | zero => simp [DataW.trod] at h
    | succ n =>
      simp only [DataW.trod, he] at h
      cases c <;> simp at h
      rename_i k b
      cases k
      · simp [Lit.wf] at h
        refine ⟨canon .f32 b, canon_lt h.1, fun j a hja => ?_⟩
        cases j with
        | zero => simp [RK.enc] at hja; subst hja; exact ⟨_, rfl, b, rfl, Fl.canon (k := .f32) h.1⟩
        | succ j => simp [RK.enc] at hja
      · simp at h
theorem row_int {k : IntKind} (he : P.underlying e = some (.int k)) {n : Nat} {cs : List Value} {x : DataW H × List MemPlace} (h : DataW.trod enc P w 0 (fun _ => true) true n e cs = some x) (hl : cs.length = 1) : RowOf (.int k) (fun y : Int => k.min ≤ y ∧ y ≤ k.max) cs := by
  obtain ⟨c, rfl⟩ := List.length_eq_one_iff.1 hl
  clear hl
  · skip
    cases n with
    | zero => simp [DataW.trod] at h
    | succ n =>
      simp only [DataW.trod, he] at h
      cases c <;> simp at h
      rename_i k' b
      simp [Lit.wf] at h
      obtain ⟨⟨rfl, h1⟩, _⟩ := h
      refine ⟨b, h1, fun j a hja => ?_⟩
      cases j with
      | zero => simp [RK.enc] at hja; subst hja; exact ⟨_, rfl, rfl⟩
      | succ j => simp [RK.enc] at hja
theorem trod_f32 {n : Nat} {x : Value} {y : DataW H × List MemPlace} (he : P.underlying e = some (.float .f32)) (h : DataW.trod enc P w 0 (fun _ => true) true n e [x] = some y) : ∃ b, x = .float .f32 b ∧ b < 2 ^ 32 := by
  cases n with
  | zero => simp [DataW.trod] at h
  | succ n =>
    simp only [DataW.trod, he] at h
    cases x <;> simp at h
    rename_i k b
    cases k
    · simp [Lit.wf] at h; exact ⟨b, rfl, h.1⟩
    · simp at h
/-- A struct of 'E' float32s, each one cell, one behind the other. -/
def flatB (P : Program) (fs : Array Field) (E : Nat) : Bool :=
  Nat.beq fs.size E && (List.range E).all fun i => match fs[i]? with
    | some f => Nat.beq f.offset i && Nat.beq (P.cellsOf f.type) 1 && (match P.underlying f.type with | some (.float .f32) => true | _ => false)
    | none => false
theorem row_f4 {fs : Array Field} (hs : P.underlying e = some (.struct fs)) (hfs : flatB P fs 4 = true) {n : Nat} {cs : List Value} {x : DataW H × List MemPlace} (h : DataW.trod enc P w 0 (fun _ => true) true n e cs = some x) (hl : cs.length = 4) :
    RowOf .f4 (fun y : Nat × Nat × Nat × Nat => y.1 < 2 ^ 32 ∧ y.2.1 < 2 ^ 32 ∧ y.2.2.1 < 2 ^ 32 ∧ y.2.2.2 < 2 ^ 32) cs := by
  simp only [flatB, Bool.and_eq_true, Nat.beq_eq, List.all_eq_true] at hfs
  obtain ⟨hsz, hfs⟩ := hfs
  obtain ⟨xs, n', _, _, _, hxl, hfield⟩ := DataW.trod_struct hs h
  have hc : ∀ i, i < 4 → ∃ c, cs[i]? = some (.float .f32 c) ∧ c < 2 ^ 32 := fun i hi => by
    have hfr := hfs i (List.mem_range.2 hi)
    have hsome : fs[i]? = some fs[i] := Array.getElem?_eq_getElem (by omega)
    rw [hsome] at hfr
    simp only [Bool.and_eq_true, Nat.beq_eq] at hfr
    obtain ⟨⟨ho, hc1⟩, hu0⟩ := hfr
    have hu : P.underlying fs[i].type = some (.float .f32) := by
      split at hu0
      · assumption
      · cases hu0
    have hff := hfield i _ hsome
    rw [ho, hc1] at hff
    have hdt : (cs.drop i).take 1 = [cs[i]] := by
      rw [List.drop_eq_getElem_cons (by omega)]; rfl
    rw [hdt, List.getElem?_eq_getElem (by omega)] at hff
    obtain ⟨c, hc, hlt⟩ := trod_f32 hu hff
    exact ⟨c, by rw [List.getElem?_eq_getElem (by omega), hc], hlt⟩
  obtain ⟨c0, e0, l0⟩ := hc 0 (by omega)
  obtain ⟨c1, e1, l1⟩ := hc 1 (by omega)
  obtain ⟨c2, e2, l2⟩ := hc 2 (by omega)
  obtain ⟨c3, e3, l3⟩ := hc 3 (by omega)
  refine ⟨(canon .f32 c0, canon .f32 c1, canon .f32 c2, canon .f32 c3), ⟨canon_lt l0, canon_lt l1, canon_lt l2, canon_lt l3⟩, fun j a hja => ?_⟩
  match j, hja with
  | 0, hja => simp [RK.enc] at hja; subst hja; exact ⟨_, e0, c0, rfl, Fl.canon (k := .f32) l0⟩
  | 1, hja => simp [RK.enc] at hja; subst hja; exact ⟨_, e1, c1, rfl, Fl.canon (k := .f32) l1⟩
  | 2, hja => simp [RK.enc] at hja; subst hja; exact ⟨_, e2, c2, rfl, Fl.canon (k := .f32) l2⟩
  | 3, hja => simp [RK.enc] at hja; subst hja; exact ⟨_, e3, c3, rfl, Fl.canon (k := .f32) l3⟩
  | j + 4, hja => simp [RK.enc] at hja
theorem VR.int {F : Nat → Prop} {Tg : AV → Value → Prop} {m : Mp} {L : Loc} {k : IntKind} {n : Int} : VR F Tg w m L (.int k n) (.int k n) := by simp only [VR]
/-- A struct of two int64s and a slice of float32s. -/
theorem hill_in {fs : Array Field} {f2 : Field} {T0 T2 : TypeId} (hs : P.underlying t = some (.struct fs)) (hts : P.cellTypes P.depth t = some [T0, T0, T2]) (hC : P.cellsOf t = 3) (hT0 : P.underlying T0 = some (.int .i64)) (hT2 : P.underlying T2 = some (.slice e)) (he : P.underlying e = some (.float .f32)) (hE : P.cellsOf e = 1)
    (hf2 : fs[2]? = some f2) (ho : f2.offset = 2) (hty : f2.type = T2) (hc2 : P.cellsOf T2 = 1) (hval : Value.okWide P w .any 0 t v) (h : DataW.Trod enc P w 0 (fun _ => true) true t v d p) :
    ∃ (A B : Int) (ys : List Nat), ((IntKind.i64.min ≤ A ∧ A ≤ IntKind.i64.max) ∧ IntKind.i64.min ≤ B ∧ B ≤ IntKind.i64.max) ∧ ys.length < 2 ^ 63 ∧ (∀ y ∈ ys, y < 2 ^ 32) ∧
      ∀ Tg m L, VR (fun b => b < w.heap.size) Tg w m L (.agg [.int .i64 A, .int .i64 B, .sli .f32 ys .undef]) v := by
  obtain ⟨fuel, hf⟩ := h
  simp only [Value.okWide, hs] at hval
  obtain ⟨cs, rfl, hsz, ts, hts', _, hc⟩ := hval
  rw [hts] at hts'; cases hts'
  rw [hC] at hsz
  obtain ⟨c0, c1, c2, hcs⟩ : ∃ c0 c1 c2, cs.toList = [c0, c1, c2] := by
    have hl : cs.toList.length = 3 := by simpa using hsz
    match cs.toList, hl with
    | [a, b, c], _ => exact ⟨a, b, c, rfl⟩
  have hget : ∀ i u, [c0, c1, c2][i]? = some u → ∃ U, [T0, T0, T2][i % [T0, T0, T2].length]? = some U ∧ Cell.okWide P w .any 0 U u := fun i u hu => hc i u (by rw [← hcs] at hu; simpa using hu)
  obtain ⟨U0, hU0, k0⟩ := hget 0 c0 rfl
  obtain ⟨U1, hU1, k1⟩ := hget 1 c1 rfl
  obtain ⟨U2, hU2, k2⟩ := hget 2 c2 rfl
  cases hU0; cases hU1; cases hU2
  obtain ⟨A, rfl, hA⟩ := cellOk_int hT0 k0
  obtain ⟨B, rfl, hB⟩ := cellOk_int hT0 k1
  have hv2 : Value.okWide P w .any 0 T2 c2 := by simp only [Value.okWide, hT2]; exact k2
  obtain ⟨a0, l0, cap0, rfl⟩ := WideShapes.okWide_slice hT2 hv2
  have hf' : DataW.trod enc P w 0 (fun _ => true) true fuel t [.int .i64 A, .int .i64 B, .slice a0 l0 cap0] = some (d, p) := by
    have e1 : (Value.agg cs).cells.toList = cs.toList := rfl
    rw [e1, hcs] at hf; exact hf
  obtain ⟨xs, n', _, _, _, hxl, hfield⟩ := DataW.trod_struct hs hf'
  have hff := hfield 2 f2 hf2
  rw [ho, hty, hc2] at hff
  obtain ⟨y, hy⟩ : ∃ y, xs[2]? = some y := by
    cases hx : xs[2]? with
    | some y => exact ⟨y, rfl⟩
    | none =>
      have h1 : 2 < fs.size := (Array.getElem?_eq_some_iff.1 hf2).1
      rw [List.getElem?_eq_none_iff] at hx
      omega
  rw [hy] at hff
  obtain ⟨y1, y2⟩ := y
  obtain ⟨ys, n1, n2, n3⟩ := slice_trod (r := .f32) (Q := fun y : Nat => y < 2 ^ 32) hT2 hE (fun _ _ _ h hl => row_f32 he h hl) hv2 (fuel := n') (d := y1) (p := y2) hff
  refine ⟨A, B, ys, ⟨hA, hB⟩, n1, n2, fun Tg m L => ?_⟩
  simp only [VR, VRs]
  refine ⟨cs, rfl, ?_⟩
  rw [hcs]
  refine ⟨_, _, rfl, rfl, _, _, rfl, rfl, _, _, rfl, ?_, rfl⟩
  have := n3 Tg m L
  simpa only [VR] using this
end
end Go.Bx
