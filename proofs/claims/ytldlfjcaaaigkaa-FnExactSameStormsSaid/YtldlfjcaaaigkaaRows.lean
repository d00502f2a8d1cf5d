/-
  No cell of these rows narrows 'for every input' (looked for: loops, veiled, ifaces, maps, wideKeys, modest, calm, conditions, laid).
  DERIVED. THE GIVEN ROWS OF THIS SEAT. 6 by the template 'for every input the law returns true; each argument reads behind the call as it read before'; 0 by the template 'total and deterministic' (their statements: YtldlfjcaaaigkaaTotals.lean).
  GIVEN WITH THE SEED: the statements are not yours to turn. If you find one false, say at which input.
  Laid BY PROGRAM, IN A SANDBOX (cutbox-rows.mjs): the forced cells as the released guide's own fill.sh prints them over the translation c1911dc74a5da644… (all of the seat's roots in one cut). By AI agents, Wed Nov 11 2026. No macro, syntax, notation, axiom, sorry.
-/
import Derived.Test.YtldlfjcaaaigkaaChecked
import GoSem.Claim
import GoSem.ClaimJoined
import GoSem.ClaimMapViews
import Derived.JoinedTies
import Derived.KernelRfl
namespace Go.Proofs.Ytldlfjcaaaigkaa
/- THE CELL 'sum', in the pinned program and in every row, IS THE sha256 OF THE DUMP (.gsa) THAT YtldlfjcaaaigkaaProg.lean LOADS. Nothing in Lean hashes anything: it is a label: what it is worth is what the hold of that sum in a sandbox is worth. -/
noncomputable def Try.pinned : Pinned := { name := "ytldlfjcaaaigkaa", sum := "c1911dc74a5da64440a1450a2d311a660c9f064173c124c6fbb3c1160ab36477", checked := Try.checked }
namespace Rows
def none {H : Type} : Left H := { results := [], args := [] }

/-- 'laws.FnExactOrdersOf': WHATEVER THE INPUT: true; the input reads as it did. -/
def fnExactOrdersOfSpec : ChangeSpec := { name := "fnExactOrdersOf", fn := fun _ => fun
  | [d1, d2] => { results := [.lit (.bool true)], args := [d1, d2] }
  | _ => none }
def fnExactOrdersOfRow : OpenClaim := { program := "ytldlfjcaaaigkaa", sum := "c1911dc74a5da64440a1450a2d311a660c9f064173c124c6fbb3c1160ab36477", func := "loop.example/g01302/laws.FnExactOrdersOf", spec := "fnExactOrdersOf", inPlace := ["math.Float64bits", "math.Float64frombits"], unfollowed := true, recurses := true, apart := false }
def FnExactOrdersOfSaid : Prop := fnExactOrdersOfRow.holds Try.pinned (OpenSpec.ofChange fnExactOrdersOfSpec)

/-- ITS FALSE NEIGHBOUR: 'it returns false'. Refute it at one input. -/
def fnExactOrdersOfWrong : ChangeSpec := { name := "fnExactOrdersOf", fn := fun _ => fun
  | [d1, d2] => { results := [.lit (.bool false)], args := [d1, d2] }
  | _ => none }
def FnExactOrdersOfWrongFalsely : Prop := fnExactOrdersOfRow.holds Try.pinned (OpenSpec.ofChange fnExactOrdersOfWrong)

/-- 'laws.FnExactRidgesOf': WHATEVER THE INPUT: true; the input reads as it did. -/
def fnExactRidgesOfSpec : ChangeSpec := { name := "fnExactRidgesOf", fn := fun _ => fun
  | [d1, d2] => { results := [.lit (.bool true)], args := [d1, d2] }
  | _ => none }
def fnExactRidgesOfRow : OpenClaim := { program := "ytldlfjcaaaigkaa", sum := "c1911dc74a5da64440a1450a2d311a660c9f064173c124c6fbb3c1160ab36477", func := "loop.example/g01302/laws.FnExactRidgesOf", spec := "fnExactRidgesOf", inPlace := ["math.Float64bits", "math.Float64frombits"], unfollowed := true, recurses := true, apart := false }
def FnExactRidgesOfSaid : Prop := fnExactRidgesOfRow.holds Try.pinned (OpenSpec.ofChange fnExactRidgesOfSpec)

/-- ITS FALSE NEIGHBOUR: 'it returns false'. Refute it at one input. -/
def fnExactRidgesOfWrong : ChangeSpec := { name := "fnExactRidgesOf", fn := fun _ => fun
  | [d1, d2] => { results := [.lit (.bool false)], args := [d1, d2] }
  | _ => none }
def FnExactRidgesOfWrongFalsely : Prop := fnExactRidgesOfRow.holds Try.pinned (OpenSpec.ofChange fnExactRidgesOfWrong)

/-- 'laws.FnExactRainThrough': WHATEVER THE INPUT: true; the input reads as it did. -/
def fnExactRainThroughSpec : ChangeSpec := { name := "fnExactRainThrough", fn := fun _ => fun
  | [d1, d2, d3] => { results := [.lit (.bool true)], args := [d1, d2, d3] }
  | _ => none }
def fnExactRainThroughRow : OpenClaim := { program := "ytldlfjcaaaigkaa", sum := "c1911dc74a5da64440a1450a2d311a660c9f064173c124c6fbb3c1160ab36477", func := "loop.example/g01302/laws.FnExactRainThrough", spec := "fnExactRainThrough", inPlace := ["math.Float64bits", "math.Float64frombits"], unfollowed := true, recurses := true, apart := false }
def FnExactRainThroughSaid : Prop := fnExactRainThroughRow.holds Try.pinned (OpenSpec.ofChange fnExactRainThroughSpec)

/-- ITS FALSE NEIGHBOUR: 'it returns false'. Refute it at one input. -/
def fnExactRainThroughWrong : ChangeSpec := { name := "fnExactRainThrough", fn := fun _ => fun
  | [d1, d2, d3] => { results := [.lit (.bool false)], args := [d1, d2, d3] }
  | _ => none }
def FnExactRainThroughWrongFalsely : Prop := fnExactRainThroughRow.holds Try.pinned (OpenSpec.ofChange fnExactRainThroughWrong)

/-- 'laws.FnExactHollowOf': WHATEVER THE INPUT: true; the input reads as it did. -/
def fnExactHollowOfSpec : ChangeSpec := { name := "fnExactHollowOf", fn := fun _ => fun
  | [d] => { results := [.lit (.bool true)], args := [d] }
  | _ => none }
def fnExactHollowOfRow : OpenClaim := { program := "ytldlfjcaaaigkaa", sum := "c1911dc74a5da64440a1450a2d311a660c9f064173c124c6fbb3c1160ab36477", func := "loop.example/g01302/laws.FnExactHollowOf", spec := "fnExactHollowOf", inPlace := ["math.Float64bits", "math.Float64frombits"], unfollowed := true, recurses := true, apart := false }
def FnExactHollowOfSaid : Prop := fnExactHollowOfRow.holds Try.pinned (OpenSpec.ofChange fnExactHollowOfSpec)

/-- ITS FALSE NEIGHBOUR: 'it returns false'. Refute it at one input. -/
def fnExactHollowOfWrong : ChangeSpec := { name := "fnExactHollowOf", fn := fun _ => fun
  | [d] => { results := [.lit (.bool false)], args := [d] }
  | _ => none }
def FnExactHollowOfWrongFalsely : Prop := fnExactHollowOfRow.holds Try.pinned (OpenSpec.ofChange fnExactHollowOfWrong)

/-- 'laws.FnExactFillHill': WHATEVER THE INPUT: true; the input reads as it did. -/
def fnExactFillHillSpec : ChangeSpec := { name := "fnExactFillHill", fn := fun _ => fun
  | [d] => { results := [.lit (.bool true)], args := [d] }
  | _ => none }
def fnExactFillHillRow : OpenClaim := { program := "ytldlfjcaaaigkaa", sum := "c1911dc74a5da64440a1450a2d311a660c9f064173c124c6fbb3c1160ab36477", func := "loop.example/g01302/laws.FnExactFillHill", spec := "fnExactFillHill", inPlace := ["math.Float64bits", "math.Float64frombits"], unfollowed := true, recurses := true, apart := false }
def FnExactFillHillSaid : Prop := fnExactFillHillRow.holds Try.pinned (OpenSpec.ofChange fnExactFillHillSpec)

/-- ITS FALSE NEIGHBOUR: 'it returns false'. Refute it at one input. -/
def fnExactFillHillWrong : ChangeSpec := { name := "fnExactFillHill", fn := fun _ => fun
  | [d] => { results := [.lit (.bool false)], args := [d] }
  | _ => none }
def FnExactFillHillWrongFalsely : Prop := fnExactFillHillRow.holds Try.pinned (OpenSpec.ofChange fnExactFillHillWrong)

/-- 'laws.FnExactSameStorms': WHATEVER THE INPUT: true; the input reads as it did. -/
def fnExactSameStormsSpec : ChangeSpec := { name := "fnExactSameStorms", fn := fun _ => fun
  | [d1, d2] => { results := [.lit (.bool true)], args := [d1, d2] }
  | _ => none }
def fnExactSameStormsRow : OpenClaim := { program := "ytldlfjcaaaigkaa", sum := "c1911dc74a5da64440a1450a2d311a660c9f064173c124c6fbb3c1160ab36477", func := "loop.example/g01302/laws.FnExactSameStorms", spec := "fnExactSameStorms", inPlace := ["math.Float32bits", "math.Float64bits"], unfollowed := true, recurses := true, apart := false }
def FnExactSameStormsSaid : Prop := fnExactSameStormsRow.holds Try.pinned (OpenSpec.ofChange fnExactSameStormsSpec)

/-- ITS FALSE NEIGHBOUR: 'it returns false'. Refute it at one input. -/
def fnExactSameStormsWrong : ChangeSpec := { name := "fnExactSameStorms", fn := fun _ => fun
  | [d1, d2] => { results := [.lit (.bool false)], args := [d1, d2] }
  | _ => none }
def FnExactSameStormsWrongFalsely : Prop := fnExactSameStormsRow.holds Try.pinned (OpenSpec.ofChange fnExactSameStormsWrong)

/- THE SECOND FORM. 'bulk': how many values and letters a reading holds, each counted each time it is reached (what is shared counts as often as it is met; a slice's spare places count too). A statement '..UptoSaid' is the law's where the arguments, and the package variables that the reading takes, are together of bulk at most 1048576: NARROWER than '..Said'. Prove '..Said' where nothing that the law and all that it calls make is longer than what came in: it says more and counts as full. Else prove '..UptoSaid'. A law counts once. -/
mutual
def uptoBulk {H : Type} : DataW H → Nat
  | .lit (.string bytes) => bytes.length + 1
  | .lit _ => 1
  | .nil => 1
  | .ptr d => uptoBulk d + 1
  | .slice elems spare => uptoBulkAll elems + uptoBulkAll spare + 1
  | .agg parts => uptoBulkAll parts + 1
  | .iface _ d => uptoBulk d + 1
  | .map entries => uptoBulkEntries entries + 1
  | .held _ => 1
def uptoBulkAll {H : Type} : List (DataW H) → Nat
  | [] => 0
  | d :: r => uptoBulk d + uptoBulkAll r
def uptoBulkEntries {H : Type} : List (Lit × DataW H) → Nat
  | [] => 0
  | x :: r => uptoBulkEntry x + uptoBulkEntries r
def uptoBulkEntry {H : Type} : Lit × DataW H → Nat
  | (.string bytes, d) => bytes.length + uptoBulk d + 1
  | (_, d) => uptoBulk d + 1
 end
def uptoSmall : (H : Type) → List (DataW H) → Bool := fun _ ds => decide (uptoBulkAll ds ≤ 1048576)
def OpenSpec.upto (s : _root_.Go.ChangeSpec) : _root_.Go.OpenSpec := { _root_.Go.OpenSpec.ofChange s with cond := some uptoSmall }

/-- 'laws.FnExactOrdersOf', WHERE WHAT IT READS IS OF BULK AT MOST 1048576: true; the input reads as it did. -/
def fnExactOrdersOfUptoRow : OpenClaim := { program := "ytldlfjcaaaigkaa", sum := "c1911dc74a5da64440a1450a2d311a660c9f064173c124c6fbb3c1160ab36477", func := "loop.example/g01302/laws.FnExactOrdersOf", spec := "fnExactOrdersOf", inPlace := ["math.Float64bits", "math.Float64frombits"], unfollowed := true, recurses := true, apart := false, narrowed := true }
def FnExactOrdersOfUptoSaid : Prop := fnExactOrdersOfUptoRow.holds Try.pinned (OpenSpec.upto fnExactOrdersOfSpec)

/-- 'laws.FnExactRidgesOf', WHERE WHAT IT READS IS OF BULK AT MOST 1048576: true; the input reads as it did. -/
def fnExactRidgesOfUptoRow : OpenClaim := { program := "ytldlfjcaaaigkaa", sum := "c1911dc74a5da64440a1450a2d311a660c9f064173c124c6fbb3c1160ab36477", func := "loop.example/g01302/laws.FnExactRidgesOf", spec := "fnExactRidgesOf", inPlace := ["math.Float64bits", "math.Float64frombits"], unfollowed := true, recurses := true, apart := false, narrowed := true }
def FnExactRidgesOfUptoSaid : Prop := fnExactRidgesOfUptoRow.holds Try.pinned (OpenSpec.upto fnExactRidgesOfSpec)

/-- 'laws.FnExactRainThrough', WHERE WHAT IT READS IS OF BULK AT MOST 1048576: true; the input reads as it did. -/
def fnExactRainThroughUptoRow : OpenClaim := { program := "ytldlfjcaaaigkaa", sum := "c1911dc74a5da64440a1450a2d311a660c9f064173c124c6fbb3c1160ab36477", func := "loop.example/g01302/laws.FnExactRainThrough", spec := "fnExactRainThrough", inPlace := ["math.Float64bits", "math.Float64frombits"], unfollowed := true, recurses := true, apart := false, narrowed := true }
def FnExactRainThroughUptoSaid : Prop := fnExactRainThroughUptoRow.holds Try.pinned (OpenSpec.upto fnExactRainThroughSpec)

/-- 'laws.FnExactHollowOf', WHERE WHAT IT READS IS OF BULK AT MOST 1048576: true; the input reads as it did. -/
def fnExactHollowOfUptoRow : OpenClaim := { program := "ytldlfjcaaaigkaa", sum := "c1911dc74a5da64440a1450a2d311a660c9f064173c124c6fbb3c1160ab36477", func := "loop.example/g01302/laws.FnExactHollowOf", spec := "fnExactHollowOf", inPlace := ["math.Float64bits", "math.Float64frombits"], unfollowed := true, recurses := true, apart := false, narrowed := true }
def FnExactHollowOfUptoSaid : Prop := fnExactHollowOfUptoRow.holds Try.pinned (OpenSpec.upto fnExactHollowOfSpec)

/-- 'laws.FnExactFillHill', WHERE WHAT IT READS IS OF BULK AT MOST 1048576: true; the input reads as it did. -/
def fnExactFillHillUptoRow : OpenClaim := { program := "ytldlfjcaaaigkaa", sum := "c1911dc74a5da64440a1450a2d311a660c9f064173c124c6fbb3c1160ab36477", func := "loop.example/g01302/laws.FnExactFillHill", spec := "fnExactFillHill", inPlace := ["math.Float64bits", "math.Float64frombits"], unfollowed := true, recurses := true, apart := false, narrowed := true }
def FnExactFillHillUptoSaid : Prop := fnExactFillHillUptoRow.holds Try.pinned (OpenSpec.upto fnExactFillHillSpec)

/-- 'laws.FnExactSameStorms', WHERE WHAT IT READS IS OF BULK AT MOST 1048576: true; the input reads as it did. -/
def fnExactSameStormsUptoRow : OpenClaim := { program := "ytldlfjcaaaigkaa", sum := "c1911dc74a5da64440a1450a2d311a660c9f064173c124c6fbb3c1160ab36477", func := "loop.example/g01302/laws.FnExactSameStorms", spec := "fnExactSameStorms", inPlace := ["math.Float32bits", "math.Float64bits"], unfollowed := true, recurses := true, apart := false, narrowed := true }
def FnExactSameStormsUptoSaid : Prop := fnExactSameStormsUptoRow.holds Try.pinned (OpenSpec.upto fnExactSameStormsSpec)

end Rows
end Go.Proofs.Ytldlfjcaaaigkaa
