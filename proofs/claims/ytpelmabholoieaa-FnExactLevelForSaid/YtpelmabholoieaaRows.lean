/-
  No cell of these rows narrows 'for every input' (looked for: loops, veiled, ifaces, maps, wideKeys, modest, calm, conditions, laid).
  DERIVED. THE GIVEN ROWS OF THIS SEAT. 4 by the template 'for every input the law returns true; each argument reads behind the call as it read before'; 0 by the template 'total and deterministic' (their statements: YtpelmabholoieaaTotals.lean).
  GIVEN WITH THE SEED: the statements are not yours to turn. If you find one false, say at which input.
  Laid BY PROGRAM, IN A SANDBOX (cutbox-rows.mjs): the forced cells as the released guide's own fill.sh prints them over the translation d410b2ca79d7d22c… (all of the seat's roots in one cut). By AI agents, Wed Nov 11 2026. No macro, syntax, notation, axiom, sorry.
-/
import Derived.Test.YtpelmabholoieaaChecked
import GoSem.Claim
import GoSem.ClaimJoined
import GoSem.ClaimMapViews
import Derived.JoinedTies
import Derived.KernelRfl
namespace Go.Proofs.Ytpelmabholoieaa
/- THE CELL 'sum', in the pinned program and in every row, IS THE sha256 OF THE DUMP (.gsa) THAT YtpelmabholoieaaProg.lean LOADS. Nothing in Lean hashes anything: it is a label: what it is worth is what the hold of that sum in a sandbox is worth. -/
noncomputable def Try.pinned : Pinned := { name := "ytpelmabholoieaa", sum := "d410b2ca79d7d22c79ada9c2d401f8fe7c848457d7ff2cc728299e74154877a3", checked := Try.checked }
namespace Rows
def none {H : Type} : Left H := { results := [], args := [] }

/-- 'laws.FnExactRunSnow': WHATEVER THE INPUT: true; the input reads as it did. -/
def fnExactRunSnowSpec : ChangeSpec := { name := "fnExactRunSnow", fn := fun _ => fun
  | [d1, d2, d3, d4] => { results := [.lit (.bool true)], args := [d1, d2, d3, d4] }
  | _ => none }
def fnExactRunSnowRow : OpenClaim := { program := "ytpelmabholoieaa", sum := "d410b2ca79d7d22c79ada9c2d401f8fe7c848457d7ff2cc728299e74154877a3", func := "loop.example/g01302/laws.FnExactRunSnow", spec := "fnExactRunSnow", inPlace := ["math.Float64bits", "math.Float64frombits"], unfollowed := true, recurses := true, apart := false }
def FnExactRunSnowSaid : Prop := fnExactRunSnowRow.holds Try.pinned (OpenSpec.ofChange fnExactRunSnowSpec)

/-- ITS FALSE NEIGHBOUR: 'it returns false'. Refute it at one input. -/
def fnExactRunSnowWrong : ChangeSpec := { name := "fnExactRunSnow", fn := fun _ => fun
  | [d1, d2, d3, d4] => { results := [.lit (.bool false)], args := [d1, d2, d3, d4] }
  | _ => none }
def FnExactRunSnowWrongFalsely : Prop := fnExactRunSnowRow.holds Try.pinned (OpenSpec.ofChange fnExactRunSnowWrong)

/-- 'laws.FnExactUnitList': WHATEVER THE INPUT: true; the input reads as it did. -/
def fnExactUnitListSpec : ChangeSpec := { name := "fnExactUnitList", fn := fun _ => fun
  | [d1, d2, d3, d4] => { results := [.lit (.bool true)], args := [d1, d2, d3, d4] }
  | _ => none }
def fnExactUnitListRow : OpenClaim := { program := "ytpelmabholoieaa", sum := "d410b2ca79d7d22c79ada9c2d401f8fe7c848457d7ff2cc728299e74154877a3", func := "loop.example/g01302/laws.FnExactUnitList", spec := "fnExactUnitList", inPlace := ["math.Float64frombits", "math.Float64bits"], unfollowed := true, recurses := true, apart := false }
def FnExactUnitListSaid : Prop := fnExactUnitListRow.holds Try.pinned (OpenSpec.ofChange fnExactUnitListSpec)

/-- ITS FALSE NEIGHBOUR: 'it returns false'. Refute it at one input. -/
def fnExactUnitListWrong : ChangeSpec := { name := "fnExactUnitList", fn := fun _ => fun
  | [d1, d2, d3, d4] => { results := [.lit (.bool false)], args := [d1, d2, d3, d4] }
  | _ => none }
def FnExactUnitListWrongFalsely : Prop := fnExactUnitListRow.holds Try.pinned (OpenSpec.ofChange fnExactUnitListWrong)

/-- 'laws.FnExactRunBuckets': WHATEVER THE INPUT: true; the input reads as it did. -/
def fnExactRunBucketsSpec : ChangeSpec := { name := "fnExactRunBuckets", fn := fun _ => fun
  | [d1, d2, d3, d4] => { results := [.lit (.bool true)], args := [d1, d2, d3, d4] }
  | _ => none }
def fnExactRunBucketsRow : OpenClaim := { program := "ytpelmabholoieaa", sum := "d410b2ca79d7d22c79ada9c2d401f8fe7c848457d7ff2cc728299e74154877a3", func := "loop.example/g01302/laws.FnExactRunBuckets", spec := "fnExactRunBuckets", inPlace := ["math.Float64frombits", "math.Float64bits"], unfollowed := true, recurses := true, apart := false }
def FnExactRunBucketsSaid : Prop := fnExactRunBucketsRow.holds Try.pinned (OpenSpec.ofChange fnExactRunBucketsSpec)

/-- ITS FALSE NEIGHBOUR: 'it returns false'. Refute it at one input. -/
def fnExactRunBucketsWrong : ChangeSpec := { name := "fnExactRunBuckets", fn := fun _ => fun
  | [d1, d2, d3, d4] => { results := [.lit (.bool false)], args := [d1, d2, d3, d4] }
  | _ => none }
def FnExactRunBucketsWrongFalsely : Prop := fnExactRunBucketsRow.holds Try.pinned (OpenSpec.ofChange fnExactRunBucketsWrong)

/-- 'laws.FnExactLevelFor': WHATEVER THE INPUT: true; the input reads as it did. -/
def fnExactLevelForSpec : ChangeSpec := { name := "fnExactLevelFor", fn := fun _ => fun
  | [d1, d2, d3] => { results := [.lit (.bool true)], args := [d1, d2, d3] }
  | _ => none }
def fnExactLevelForRow : OpenClaim := { program := "ytpelmabholoieaa", sum := "d410b2ca79d7d22c79ada9c2d401f8fe7c848457d7ff2cc728299e74154877a3", func := "loop.example/g01302/laws.FnExactLevelFor", spec := "fnExactLevelFor", inPlace := ["math.Float64frombits", "math.Float64bits"], apart := false }
def FnExactLevelForSaid : Prop := fnExactLevelForRow.holds Try.pinned (OpenSpec.ofChange fnExactLevelForSpec)

/-- ITS FALSE NEIGHBOUR: 'it returns false'. Refute it at one input. -/
def fnExactLevelForWrong : ChangeSpec := { name := "fnExactLevelFor", fn := fun _ => fun
  | [d1, d2, d3] => { results := [.lit (.bool false)], args := [d1, d2, d3] }
  | _ => none }
def FnExactLevelForWrongFalsely : Prop := fnExactLevelForRow.holds Try.pinned (OpenSpec.ofChange fnExactLevelForWrong)

/- THE SECOND FORM. 'bulk': how many values and letters a reading holds, each counted each time it is reached (what is shared counts as often as it is met; a slice's spare places count too). A statement '..UptoSaid' is the law's where the arguments, and the package variables that the reading takes, are together of bulk at most 1048576: NARROWER than '..Said'. Prove '..Said' where nothing that the law and all that it calls make is longer than what came in: it says more and counts as full. Else prove '..UptoSaid'. A law counts once. -/
mutual
def uptoBulk {H : Type} : DataW H → Nat
  | .lit (.string bytes) => bytes.length + 1
  | .lit _ => 1
  | .nil => 1
  | .ptr d => uptoBulk d + 1
  | .slice elems spare => uptoBulkAll elems + uptoBulkAll spare + 1
  | .agg parts => uptoBulkAll parts + 1
  | .iface _ d => uptoBulk d + 1
  | .map entries => uptoBulkEntries entries + 1
  | .held _ => 1
def uptoBulkAll {H : Type} : List (DataW H) → Nat
  | [] => 0
  | d :: r => uptoBulk d + uptoBulkAll r
def uptoBulkEntries {H : Type} : List (Lit × DataW H) → Nat
  | [] => 0
  | x :: r => uptoBulkEntry x + uptoBulkEntries r
def uptoBulkEntry {H : Type} : Lit × DataW H → Nat
  | (.string bytes, d) => bytes.length + uptoBulk d + 1
  | (_, d) => uptoBulk d + 1
 end
def uptoSmall : (H : Type) → List (DataW H) → Bool := fun _ ds => decide (uptoBulkAll ds ≤ 1048576)
def OpenSpec.upto (s : _root_.Go.ChangeSpec) : _root_.Go.OpenSpec := { _root_.Go.OpenSpec.ofChange s with cond := some uptoSmall }

/-- 'laws.FnExactRunSnow', WHERE WHAT IT READS IS OF BULK AT MOST 1048576: true; the input reads as it did. -/
def fnExactRunSnowUptoRow : OpenClaim := { program := "ytpelmabholoieaa", sum := "d410b2ca79d7d22c79ada9c2d401f8fe7c848457d7ff2cc728299e74154877a3", func := "loop.example/g01302/laws.FnExactRunSnow", spec := "fnExactRunSnow", inPlace := ["math.Float64bits", "math.Float64frombits"], unfollowed := true, recurses := true, apart := false, narrowed := true }
def FnExactRunSnowUptoSaid : Prop := fnExactRunSnowUptoRow.holds Try.pinned (OpenSpec.upto fnExactRunSnowSpec)

/-- 'laws.FnExactUnitList', WHERE WHAT IT READS IS OF BULK AT MOST 1048576: true; the input reads as it did. -/
def fnExactUnitListUptoRow : OpenClaim := { program := "ytpelmabholoieaa", sum := "d410b2ca79d7d22c79ada9c2d401f8fe7c848457d7ff2cc728299e74154877a3", func := "loop.example/g01302/laws.FnExactUnitList", spec := "fnExactUnitList", inPlace := ["math.Float64frombits", "math.Float64bits"], unfollowed := true, recurses := true, apart := false, narrowed := true }
def FnExactUnitListUptoSaid : Prop := fnExactUnitListUptoRow.holds Try.pinned (OpenSpec.upto fnExactUnitListSpec)

/-- 'laws.FnExactRunBuckets', WHERE WHAT IT READS IS OF BULK AT MOST 1048576: true; the input reads as it did. -/
def fnExactRunBucketsUptoRow : OpenClaim := { program := "ytpelmabholoieaa", sum := "d410b2ca79d7d22c79ada9c2d401f8fe7c848457d7ff2cc728299e74154877a3", func := "loop.example/g01302/laws.FnExactRunBuckets", spec := "fnExactRunBuckets", inPlace := ["math.Float64frombits", "math.Float64bits"], unfollowed := true, recurses := true, apart := false, narrowed := true }
def FnExactRunBucketsUptoSaid : Prop := fnExactRunBucketsUptoRow.holds Try.pinned (OpenSpec.upto fnExactRunBucketsSpec)

/-- 'laws.FnExactLevelFor', WHERE WHAT IT READS IS OF BULK AT MOST 1048576: true; the input reads as it did. -/
def fnExactLevelForUptoRow : OpenClaim := { program := "ytpelmabholoieaa", sum := "d410b2ca79d7d22c79ada9c2d401f8fe7c848457d7ff2cc728299e74154877a3", func := "loop.example/g01302/laws.FnExactLevelFor", spec := "fnExactLevelFor", inPlace := ["math.Float64frombits", "math.Float64bits"], apart := false, narrowed := true }
def FnExactLevelForUptoSaid : Prop := fnExactLevelForUptoRow.holds Try.pinned (OpenSpec.upto fnExactLevelForSpec)

end Rows
end Go.Proofs.Ytpelmabholoieaa
